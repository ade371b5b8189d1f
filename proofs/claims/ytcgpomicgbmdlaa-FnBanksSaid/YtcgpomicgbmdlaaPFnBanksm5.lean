-- Words and walks of the print, as far as this claim uses them (laid by wip/mkclaim.py of this session). Lean checks it.
import Derived.Test.YtcgpomicgbmdlaaFl
import Derived.Test.YtcgpomicgbmdlaaPFnBanksm0
import Derived.Test.YtcgpomicgbmdlaaPFnBanksm4
import Derived.Test.YtcgpomicgbmdlaaPFnBanksm2
import Derived.Test.YtcgpomicgbmdlaaPFnBanksm3
namespace Go.Proofs.Ytcgpomicgbmdlaa.PFnBanks
open Go.RowKit Go.Proofs.YtcgpomicgbmdlaaW.PrintWords Go.Proofs.YtcgpomicgbmdlaaW.PrintLast Go.Proofs.YtcgpomicgbmdlaaW.PrintMore
attribute [local go_sem] max2_int min2_int max_two min_two max_three min_three max_four min_four   -- for this text's walks alone
set_option linter.unusedVariables false
set_option linter.unusedSimpArgs false

/-! ### impl_AddPhases: function 157 -/
def impl_AddPhases.f (a0_0 : Cx) (a0_1 : Cx) (a0_2 : Cx) (a1_0 : Cx) (a1_1 : Cx) (a1_2 : Cx) : Option (Cx × Cx × Cx) := (impl_each_f173.f a0_0 a0_1 a0_2 a1_0 a1_1 a1_2).bind fun bt338 => (some (bt338.1, bt338.2.1, bt338.2.2))
set_option maxHeartbeats 8000000 in
set_option maxRecDepth 100000 in
theorem impl_AddPhases.calls (a0_0 : Cx) (a0_1 : Cx) (a0_2 : Cx) (a1_0 : Cx) (a1_1 : Cx) (a1_2 : Cx) (r1 : Cx) (r2 : Cx) (r3 : Cx) (w : World) (h : impl_AddPhases.f a0_0 a0_1 a0_2 a1_0 a1_1 a1_2 = some (r1, r2, r3)) :
  Calls Try.prog 157 #[.agg #[.complex .f32 a0_0.re a0_0.im, .complex .f32 a0_1.re a0_1.im, .complex .f32 a0_2.re a0_2.im], .agg #[.complex .f32 a1_0.re a1_0.im, .complex .f32 a1_1.re a1_1.im, .complex .f32 a1_2.re a1_2.im]] w fun e w' => e = .returned (.agg #[.complex .f32 r1.re r1.im, .complex .f32 r2.re r2.im, .complex .f32 r3.re r3.im]) ∧ Below w.heap.size w w' := by
 have hu39 := Try.underlying39
 have HB := Aside0.mk (Below.refl w.heap.size w)
 have H : ((impl_each_f173.f a0_0 a0_1 a0_2 a1_0 a1_1 a1_2).bind fun bt338 => (some (bt338.1, bt338.2.1, bt338.2.2))) = some (r1, r2, r3) := h
 clear h
 replace H := Option.bind_eq_some_iff.mp H
 obtain ⟨⟨t338, t339, t340⟩, A30, H⟩ := H
 try dsimp only at H
 have A3 := Aside0.mk A30
 clear A30
 simp only [Option.some.injEq, Prod.mk.injEq] at H
 obtain ⟨rfl, rfl, rfl⟩ := H
 go_enter Try.func157, Try.ntmps157
 go_wp2_with (first | ((with_reducible refine gate_dst (N := 2) rfl ?_); refine box_event ?hg (N := 2) ?hd (cs := #[.complex .f32 a0_0.re a0_0.im, .complex .f32 a0_1.re a0_1.im, .complex .f32 a0_2.re a0_2.im]) (t := 39) ?hr ?_; (case hd => rfl); (case hg => rfl); (case hr => first | (go_simp; done) | (go_simp; rfl)); intro gb335 hg w4 hbox hb; have n0_ := Aside0.mk (below_step tb hb); have n1_ := Aside0.mk (hbox); have n2_ := Aside0.mk ((by rw [hg]; exact (below_size tb) : w.heap.size ≤ gb335)); have n3_ := Aside0.mk ((by rw [hg]; exact (below_size tb) : w.heap.size ≤ gb335)); clear HB; have HB := n0_; have BK335 := n1_; have GW335 := n2_; have GE335 := n3_; clear n0_ n1_ n2_ n3_; clear hb hbox hg) | ((with_reducible refine gate_dst (N := 3) rfl ?_); refine box_event ?hg (N := 3) ?hd (cs := #[.complex .f32 a1_0.re a1_0.im, .complex .f32 a1_1.re a1_1.im, .complex .f32 a1_2.re a1_2.im]) (t := 39) ?hr ?_; (case hd => rfl); (case hg => rfl); (case hr => first | (go_simp; done) | (go_simp; rfl)); intro gb336 hg w5 hbox hb; have n0_ := Aside0.mk (blk_below (g := gb335) (o := .cells #[.complex .f32 a0_0.re a0_0.im, .complex .f32 a0_1.re a0_1.im, .complex .f32 a0_2.re a0_2.im] 39 (0, 0)) (bu BK335.out) hb); have n1_ := Aside0.mk (below_step tb hb); have n2_ := Aside0.mk (hbox); have n3_ := Aside0.mk ((by rw [hg]; exact (below_size tb) : w.heap.size ≤ gb336)); have n4_ := Aside0.mk ((by rw [hg]; exact (below_size tb) : w.heap.size ≤ gb336)); have n5_ := Aside0.mk ((by rw [hg]; exact Nat.ne_of_lt (blk_lt (g := gb335) (o := .cells #[.complex .f32 a0_0.re a0_0.im, .complex .f32 a0_1.re a0_1.im, .complex .f32 a0_2.re a0_2.im] 39 (0, 0)) (bu BK335.out)) : gb335 ≠ gb336)); have n6_ := Aside0.mk ((by rw [hg]; exact Nat.ne_of_gt (blk_lt (g := gb335) (o := .cells #[.complex .f32 a0_0.re a0_0.im, .complex .f32 a0_1.re a0_1.im, .complex .f32 a0_2.re a0_2.im] 39 (0, 0)) (bu BK335.out)) : gb336 ≠ gb335)); clear BK335; clear HB; have BK335 := n0_; have HB := n1_; have BK336 := n2_; have GW336 := n3_; have GE336 := n4_; have NB335_336 := n5_; have NB336_335 := n6_; clear n0_ n1_ n2_ n3_ n4_ n5_ n6_; clear hb hbox hg) | ((with_reducible refine gate_dst (N := 4) rfl ?_); refine box_event ?hg (N := 4) ?hd (cs := #[.complex .f32 0 0, .complex .f32 0 0, .complex .f32 0 0]) (t := 39) ?hr ?_; (case hd => rfl); (case hg => rfl); (case hr => first | (go_simp; done) | (go_simp; rfl)); intro gb337 hg w6 hbox hb; have n0_ := Aside0.mk (blk_below (g := gb335) (o := .cells #[.complex .f32 a0_0.re a0_0.im, .complex .f32 a0_1.re a0_1.im, .complex .f32 a0_2.re a0_2.im] 39 (0, 0)) (bu BK335.out) hb); have n1_ := Aside0.mk (blk_below (g := gb336) (o := .cells #[.complex .f32 a1_0.re a1_0.im, .complex .f32 a1_1.re a1_1.im, .complex .f32 a1_2.re a1_2.im] 39 (0, 0)) (bu BK336.out) hb); have n2_ := Aside0.mk (below_step tb hb); have n3_ := Aside0.mk (hbox); have n4_ := Aside0.mk ((by rw [hg]; exact (below_size tb) : w.heap.size ≤ gb337)); have n5_ := Aside0.mk ((by rw [hg]; exact (below_size tb) : w.heap.size ≤ gb337)); have n6_ := Aside0.mk ((by rw [hg]; exact Nat.ne_of_lt (blk_lt (g := gb335) (o := .cells #[.complex .f32 a0_0.re a0_0.im, .complex .f32 a0_1.re a0_1.im, .complex .f32 a0_2.re a0_2.im] 39 (0, 0)) (bu BK335.out)) : gb335 ≠ gb337)); have n7_ := Aside0.mk ((by rw [hg]; exact Nat.ne_of_gt (blk_lt (g := gb335) (o := .cells #[.complex .f32 a0_0.re a0_0.im, .complex .f32 a0_1.re a0_1.im, .complex .f32 a0_2.re a0_2.im] 39 (0, 0)) (bu BK335.out)) : gb337 ≠ gb335)); have n8_ := Aside0.mk ((by rw [hg]; exact Nat.ne_of_lt (blk_lt (g := gb336) (o := .cells #[.complex .f32 a1_0.re a1_0.im, .complex .f32 a1_1.re a1_1.im, .complex .f32 a1_2.re a1_2.im] 39 (0, 0)) (bu BK336.out)) : gb336 ≠ gb337)); have n9_ := Aside0.mk ((by rw [hg]; exact Nat.ne_of_gt (blk_lt (g := gb336) (o := .cells #[.complex .f32 a1_0.re a1_0.im, .complex .f32 a1_1.re a1_1.im, .complex .f32 a1_2.re a1_2.im] 39 (0, 0)) (bu BK336.out)) : gb337 ≠ gb336)); clear BK335; clear BK336; clear HB; have BK335 := n0_; have BK336 := n1_; have HB := n2_; have BK337 := n3_; have GW337 := n4_; have GE337 := n5_; have NB335_337 := n6_; have NB337_335 := n7_; have NB336_337 := n8_; have NB337_336 := n9_; clear n0_ n1_ n2_ n3_ n4_ n5_ n6_ n7_ n8_ n9_; clear hb hbox hg; have hnb7 := NB335_336.out; have hnc7 := NB336_335.out; have hnb8 := NB335_337.out; have hnc8 := NB337_335.out; have hcz9_0 : w6.cell? ⟨gb335, 0, none⟩ = some (.complex .f32 a0_0.re a0_0.im) := (blk_cell BK335.out 0).trans rfl; have hcz9_1 : w6.cell? ⟨gb335, 1, none⟩ = some (.complex .f32 a0_1.re a0_1.im) := (blk_cell BK335.out 1).trans rfl; have hcz9_2 : w6.cell? ⟨gb335, 2, none⟩ = some (.complex .f32 a0_2.re a0_2.im) := (blk_cell BK335.out 2).trans rfl; have hfz9_0 := blk_frozen BK335.out 0; have hfz9_1 := blk_frozen BK335.out 1; have hfz9_2 := blk_frozen BK335.out 2; have hnb10 := NB336_337.out; have hnc10 := NB337_336.out; have hcz11_0 : w6.cell? ⟨gb336, 0, none⟩ = some (.complex .f32 a1_0.re a1_0.im) := (blk_cell BK336.out 0).trans rfl; have hcz11_1 : w6.cell? ⟨gb336, 1, none⟩ = some (.complex .f32 a1_1.re a1_1.im) := (blk_cell BK336.out 1).trans rfl; have hcz11_2 : w6.cell? ⟨gb336, 2, none⟩ = some (.complex .f32 a1_2.re a1_2.im) := (blk_cell BK336.out 2).trans rfl; have hfz11_0 := blk_frozen BK336.out 0; have hfz11_1 := blk_frozen BK336.out 1; have hfz11_2 := blk_frozen BK336.out 2) | ((with_reducible refine gate_callee (f := 152) rfl ?_); refine gx_ (some 7) Try.func152 #[.agg #[.complex .f32 a0_0.re a0_0.im, .complex .f32 a0_1.re a0_1.im, .complex .f32 a0_2.re a0_2.im], .agg #[.complex .f32 a1_0.re a1_0.im, .complex .f32 a1_1.re a1_1.im, .complex .f32 a1_2.re a1_2.im], .func (.func 173) #[] #[]] ?_; (with_reducible refine (impl_each_f173.calls a0_0 a0_1 a0_2 a1_0 a1_1 a1_2  t338 t339 t340 _ A3.out).mono ?_); rintro e w12 ⟨rfl, hb⟩; refine ⟨_, rfl, ?_⟩; have n0_ := Aside0.mk (blk_below (g := gb335) (o := .cells #[.complex .f32 a0_0.re a0_0.im, .complex .f32 a0_1.re a0_1.im, .complex .f32 a0_2.re a0_2.im] 39 (0, 0)) (bu BK335.out) hb); have n1_ := Aside0.mk (blk_below (g := gb336) (o := .cells #[.complex .f32 a1_0.re a1_0.im, .complex .f32 a1_1.re a1_1.im, .complex .f32 a1_2.re a1_2.im] 39 (0, 0)) (bu BK336.out) hb); have n2_ := Aside0.mk (blk_below (g := gb337) (o := .cells #[.complex .f32 0 0, .complex .f32 0 0, .complex .f32 0 0] 39 (0, 0)) (bu BK337.out) hb); have n3_ := Aside0.mk (below_step tb hb); clear BK335; clear BK336; clear BK337; clear HB; have BK335 := n0_; have BK336 := n1_; have BK337 := n2_; have HB := n3_; clear n0_ n1_ n2_ n3_; (try clear hb); (try clear hb2); (try clear hk); (try clear hi); have hcz13_0 : w12.cell? ⟨gb337, 0, none⟩ = some (.complex .f32 0 0) := (blk_cell BK337.out 0).trans rfl; have hcz13_1 : w12.cell? ⟨gb337, 1, none⟩ = some (.complex .f32 0 0) := (blk_cell BK337.out 1).trans rfl; have hcz13_2 : w12.cell? ⟨gb337, 2, none⟩ = some (.complex .f32 0 0) := (blk_cell BK337.out 2).trans rfl; have hfz13_0 := blk_frozen BK337.out 0; have hfz13_1 := blk_frozen BK337.out 1; have hfz13_2 := blk_frozen BK337.out 2))
 refine bodyPost_ret (results_cell_row rfl _ _ gb337 39 #[.complex .f32 t338.re t338.im, .complex .f32 t339.re t339.im, .complex .f32 t340.re t340.im] (0, 0) _ rfl (by refine bu ?_; refine blk_put (cs := #[.complex .f32 t338.re t338.im, .complex .f32 t339.re t339.im, .complex .f32 0 0]) ?_ 2 _ rfl; refine bu ?_; refine blk_put (cs := #[.complex .f32 t338.re t338.im, .complex .f32 0 0, .complex .f32 0 0]) ?_ 1 _ rfl; refine bu ?_; refine blk_put (cs := #[.complex .f32 0 0, .complex .f32 0 0, .complex .f32 0 0]) ?_ 0 _ rfl; refine bu ?_; exact BK337.out) Try.underlying39 rfl (by kernel_rfl)) rfl ?_
 exact ⟨re_, tb⟩

-- NOT PRINTED: function 131 (impl_Feeder_back)

/-! ### impl_minus: function 153 -/
def impl_minus.f (a0 : Cx) (a1 : Cx) : Option (Cx) := if fok .sub .f32 a0.re a1.re = true then (if fok .sub .f32 a0.im a1.im = true then (some (⟨fv .sub .f32 a0.re a1.re, fv .sub .f32 a0.im a1.im⟩ : Cx)) else (none)) else (none)
set_option maxHeartbeats 8000000 in
set_option maxRecDepth 100000 in
theorem impl_minus.calls (a0 : Cx) (a1 : Cx) (r : Cx) (w : World) (h : impl_minus.f a0 a1 = some r) :
  Calls Try.prog 153 #[.complex .f32 a0.re a0.im, .complex .f32 a1.re a1.im] w fun e w' => e = .returned (.complex .f32 r.re r.im) ∧ Drawn0 w w' := by
 have H : (if fok .sub .f32 a0.re a1.re = true then (if fok .sub .f32 a0.im a1.im = true then (some (⟨fv .sub .f32 a0.re a1.re, fv .sub .f32 a0.im a1.im⟩ : Cx)) else (none)) else (none)) = some r := h
 clear h
 by_cases c3 : fok .sub .f32 a0.re a1.re = true
 ·rw [if_pos c3] at H
  have c3b0 := eq_true c3
  have c3b1 : decide (fok .sub .f32 a0.re a1.re = true) = true := decide_eq_true c3
  clear c3
  by_cases c4 : fok .sub .f32 a0.im a1.im = true
  ·rw [if_pos c4] at H
   have c4b0 := eq_true c4
   have c4b1 : decide (fok .sub .f32 a0.im a1.im = true) = true := decide_eq_true c4
   clear c4
   obtain rfl := Option.some.inj H
   go_enter Try.func153, Try.ntmps153
   go_wp2
   go_ret
   exact ⟨rs_, dr_⟩
  ·rw [if_neg c4] at H
   exact absurd H (by simp)
 ·rw [if_neg c3] at H
  exact absurd H (by simp)

end Go.Proofs.Ytcgpomicgbmdlaa.PFnBanks
namespace Go.Proofs.Ytcgpomicgbmdlaa.PFnBanks
open Go.RowKit Go.Proofs.YtcgpomicgbmdlaaW.PrintWords Go.Proofs.YtcgpomicgbmdlaaW.PrintLast Go.Proofs.YtcgpomicgbmdlaaW.PrintMore
attribute [local go_sem] max2_int min2_int max_two min_two max_three min_three max_four min_four   -- for this text's walks alone
set_option linter.unusedVariables false
set_option linter.unusedSimpArgs false

/-! ### impl_each_f153: function 152 -/
def impl_each_f153.f (a0_0 : Cx) (a0_1 : Cx) (a0_2 : Cx) (a1_0 : Cx) (a1_1 : Cx) (a1_2 : Cx)  : Option (Cx × Cx × Cx) := (impl_minus.f a0_0 a1_0).bind fun t344 => ((impl_minus.f a0_1 a1_1).bind fun t345 => ((impl_minus.f a0_2 a1_2).bind fun t346 => (some (t344, t345, t346))))
def impl_each_f153.T1 : Bool × List (List Nat × List Nat) := (true, [([], []), ([], []), ([1], [1]), ([], []), ([3], [3]), ([0, 2, 4], [0, 2, 4]), ([], []), ([], []), ([7], [7]), ([], []), ([9], [9]), ([6, 8, 10, 5], [6, 8, 10]), ([], []), ([], []), ([13], [13]), ([], []), ([15], [15]), ([12, 14, 16, 11], [12, 14, 16]), ([5, 11, 17], [5, 11, 17]), ([18, 17, 0, 1, 2, 3, 4, 5, 6, 7, 8, 9, 10, 11, 12, 13, 14, 15, 16, 17, 18], [18])])
def impl_each_f153.B1 : List Nat := [0, 0, 2, 0, 8, 31, 0, 0, 128, 0, 512, 2047, 0, 0, 8192, 0, 32768, 131071, 262143, 524287]
theorem impl_each_f153.tab1 : rtab .any (opsOf Try.f152 1) = impl_each_f153.T1 := by kernel_rfl
theorem impl_each_f153.bits1 : waitsOk impl_each_f153.T1.2 impl_each_f153.B1 = true := by kernel_rfl
set_option maxHeartbeats 8000000 in
set_option maxRecDepth 100000 in
theorem impl_each_f153.calls (a0_0 : Cx) (a0_1 : Cx) (a0_2 : Cx) (a1_0 : Cx) (a1_1 : Cx) (a1_2 : Cx)  (r1 : Cx) (r2 : Cx) (r3 : Cx) (w : World) (h : impl_each_f153.f a0_0 a0_1 a0_2 a1_0 a1_1 a1_2 = some (r1, r2, r3)) :
  Calls Try.prog 152 #[.agg #[.complex .f32 a0_0.re a0_0.im, .complex .f32 a0_1.re a0_1.im, .complex .f32 a0_2.re a0_2.im], .agg #[.complex .f32 a1_0.re a1_0.im, .complex .f32 a1_1.re a1_1.im, .complex .f32 a1_2.re a1_2.im], .func (.func 153) #[] #[]] w fun e w' => e = .returned (.agg #[.complex .f32 r1.re r1.im, .complex .f32 r2.re r2.im, .complex .f32 r3.re r3.im]) ∧ Below w.heap.size w w' := by
 have hu39 := Try.underlying39
 have HB := Aside0.mk (Below.refl w.heap.size w)
 have H : ((impl_minus.f a0_0 a1_0).bind fun t344 => ((impl_minus.f a0_1 a1_1).bind fun t345 => ((impl_minus.f a0_2 a1_2).bind fun t346 => (some (t344, t345, t346))))) = some (r1, r2, r3) := h
 clear h
 replace H := Option.bind_eq_some_iff.mp H
 obtain ⟨t344, A40, H⟩ := H
 try dsimp only at H
 have A4 := Aside0.mk A40
 clear A40
 replace H := Option.bind_eq_some_iff.mp H
 obtain ⟨t345, A50, H⟩ := H
 try dsimp only at H
 have A5 := Aside0.mk A50
 clear A50
 replace H := Option.bind_eq_some_iff.mp H
 obtain ⟨t346, A60, H⟩ := H
 try dsimp only at H
 have A6 := Aside0.mk A60
 clear A60
 simp only [Option.some.injEq, Prod.mk.injEq] at H
 obtain ⟨rfl, rfl, rfl⟩ := H
 go_enter Try.func152, Try.ntmps152
 try go_wp2_with (first | ((with_reducible refine gate_dst (N := 3) rfl ?_); refine box_event ?hg (N := 3) ?hd (cs := #[.complex .f32 a0_0.re a0_0.im, .complex .f32 a0_1.re a0_1.im, .complex .f32 a0_2.re a0_2.im]) (t := 39) ?hr ?_; (case hd => rfl); (case hg => rfl); (case hr => first | (go_simp; done) | (go_simp; rfl)); intro gb341 hg w7 hbox hb; have n0_ := Aside0.mk (below_step tb hb); have n1_ := Aside0.mk (hbox); have n2_ := Aside0.mk ((by rw [hg]; exact (below_size tb) : w.heap.size ≤ gb341)); have n3_ := Aside0.mk ((by rw [hg]; exact (below_size tb) : w.heap.size ≤ gb341)); clear HB; have HB := n0_; have BK341 := n1_; have GW341 := n2_; have GE341 := n3_; clear n0_ n1_ n2_ n3_; clear hb hbox hg) | ((with_reducible refine gate_dst (N := 4) rfl ?_); refine box_event ?hg (N := 4) ?hd (cs := #[.complex .f32 a1_0.re a1_0.im, .complex .f32 a1_1.re a1_1.im, .complex .f32 a1_2.re a1_2.im]) (t := 39) ?hr ?_; (case hd => rfl); (case hg => rfl); (case hr => first | (go_simp; done) | (go_simp; rfl)); intro gb342 hg w8 hbox hb; have n0_ := Aside0.mk (blk_below (g := gb341) (o := .cells #[.complex .f32 a0_0.re a0_0.im, .complex .f32 a0_1.re a0_1.im, .complex .f32 a0_2.re a0_2.im] 39 (0, 0)) (bu BK341.out) hb); have n1_ := Aside0.mk (below_step tb hb); have n2_ := Aside0.mk (hbox); have n3_ := Aside0.mk ((by rw [hg]; exact (below_size tb) : w.heap.size ≤ gb342)); have n4_ := Aside0.mk ((by rw [hg]; exact (below_size tb) : w.heap.size ≤ gb342)); have n5_ := Aside0.mk ((by rw [hg]; exact Nat.ne_of_lt (blk_lt (g := gb341) (o := .cells #[.complex .f32 a0_0.re a0_0.im, .complex .f32 a0_1.re a0_1.im, .complex .f32 a0_2.re a0_2.im] 39 (0, 0)) (bu BK341.out)) : gb341 ≠ gb342)); have n6_ := Aside0.mk ((by rw [hg]; exact Nat.ne_of_gt (blk_lt (g := gb341) (o := .cells #[.complex .f32 a0_0.re a0_0.im, .complex .f32 a0_1.re a0_1.im, .complex .f32 a0_2.re a0_2.im] 39 (0, 0)) (bu BK341.out)) : gb342 ≠ gb341)); clear BK341; clear HB; have BK341 := n0_; have HB := n1_; have BK342 := n2_; have GW342 := n3_; have GE342 := n4_; have NB341_342 := n5_; have NB342_341 := n6_; clear n0_ n1_ n2_ n3_ n4_ n5_ n6_; clear hb hbox hg) | ((with_reducible refine gate_dst (N := 6) rfl ?_); refine box_event ?hg (N := 6) ?hd (cs := #[.complex .f32 0 0, .complex .f32 0 0, .complex .f32 0 0]) (t := 39) ?hr ?_; (case hd => rfl); (case hg => rfl); (case hr => first | (go_simp; done) | (go_simp; rfl)); intro gb343 hg w9 hbox hb; have n0_ := Aside0.mk (blk_below (g := gb341) (o := .cells #[.complex .f32 a0_0.re a0_0.im, .complex .f32 a0_1.re a0_1.im, .complex .f32 a0_2.re a0_2.im] 39 (0, 0)) (bu BK341.out) hb); have n1_ := Aside0.mk (blk_below (g := gb342) (o := .cells #[.complex .f32 a1_0.re a1_0.im, .complex .f32 a1_1.re a1_1.im, .complex .f32 a1_2.re a1_2.im] 39 (0, 0)) (bu BK342.out) hb); have n2_ := Aside0.mk (below_step tb hb); have n3_ := Aside0.mk (hbox); have n4_ := Aside0.mk ((by rw [hg]; exact (below_size tb) : w.heap.size ≤ gb343)); have n5_ := Aside0.mk ((by rw [hg]; exact (below_size tb) : w.heap.size ≤ gb343)); have n6_ := Aside0.mk ((by rw [hg]; exact Nat.ne_of_lt (blk_lt (g := gb341) (o := .cells #[.complex .f32 a0_0.re a0_0.im, .complex .f32 a0_1.re a0_1.im, .complex .f32 a0_2.re a0_2.im] 39 (0, 0)) (bu BK341.out)) : gb341 ≠ gb343)); have n7_ := Aside0.mk ((by rw [hg]; exact Nat.ne_of_gt (blk_lt (g := gb341) (o := .cells #[.complex .f32 a0_0.re a0_0.im, .complex .f32 a0_1.re a0_1.im, .complex .f32 a0_2.re a0_2.im] 39 (0, 0)) (bu BK341.out)) : gb343 ≠ gb341)); have n8_ := Aside0.mk ((by rw [hg]; exact Nat.ne_of_lt (blk_lt (g := gb342) (o := .cells #[.complex .f32 a1_0.re a1_0.im, .complex .f32 a1_1.re a1_1.im, .complex .f32 a1_2.re a1_2.im] 39 (0, 0)) (bu BK342.out)) : gb342 ≠ gb343)); have n9_ := Aside0.mk ((by rw [hg]; exact Nat.ne_of_gt (blk_lt (g := gb342) (o := .cells #[.complex .f32 a1_0.re a1_0.im, .complex .f32 a1_1.re a1_1.im, .complex .f32 a1_2.re a1_2.im] 39 (0, 0)) (bu BK342.out)) : gb343 ≠ gb342)); clear BK341; clear BK342; clear HB; have BK341 := n0_; have BK342 := n1_; have HB := n2_; have BK343 := n3_; have GW343 := n4_; have GE343 := n5_; have NB341_343 := n6_; have NB343_341 := n7_; have NB342_343 := n8_; have NB343_342 := n9_; clear n0_ n1_ n2_ n3_ n4_ n5_ n6_ n7_ n8_ n9_; clear hb hbox hg))
 have n0_ := Aside0.mk (blk_drew BK341.out)
 have n1_ := Aside0.mk (blk_drew BK342.out)
 have n2_ := Aside0.mk (blk_drew BK343.out)
 have n3_ := Aside0.mk (below_drew1 HB.out)
 clear BK341
 clear BK342
 clear BK343
 clear HB
 have BK341 := n0_
 have BK342 := n1_
 have BK343 := n2_
 have HB := n3_
 clear n0_ n1_ n2_ n3_
 refine start_ (n := 20) (S := fun w' => w'.cell? ⟨gb341, 0, none⟩ = some (.complex .f32 a0_0.re a0_0.im) ∧ w'.cell? ⟨gb341, 1, none⟩ = some (.complex .f32 a0_1.re a0_1.im) ∧ w'.cell? ⟨gb341, 2, none⟩ = some (.complex .f32 a0_2.re a0_2.im) ∧ w'.cell? ⟨gb342, 0, none⟩ = some (.complex .f32 a1_0.re a1_0.im) ∧ w'.cell? ⟨gb342, 1, none⟩ = some (.complex .f32 a1_1.re a1_1.im) ∧ w'.cell? ⟨gb342, 2, none⟩ = some (.complex .f32 a1_2.re a1_2.im)) (ds := []) #[false, false, false, false, false, false, false, false, false, false, false, false, false, false, false, false, false, false, false, false] (by kernel_rfl) rfl rfl ⟨(blk_cell BK341.out 0).trans rfl, (blk_cell BK341.out 1).trans rfl, (blk_cell BK341.out 2).trans rfl, (blk_cell BK342.out 0).trans rfl, (blk_cell BK342.out 1).trans rfl, (blk_cell BK342.out 2).trans rfl⟩ (fun hHeld => ?_); refine with_tabW impl_each_f153.tab1 impl_each_f153.bits1 (fun HT_ HW_ => ?_)
 generalize w9.drew = w10 at BK341 BK342 BK343 HB hHeld ⊢
 refine pure_ (i := 0) (N := some 7) (v := ?_) (a' := ?_) #[true, false, false, false, false, false, false, false, false, false, false, false, false, false, false, false, false, false, false, false] rfl rfl (any_of HT_.out (by kernel_rfl)) (fun _ _ _ h => h) (Or.inl ⟨by rfl, ?_⟩) ?_ ?_
 rotate_left
 ·intro w'
  go_simp
  with_reducible rfl
 rotate_left
 ·refine ps_ ?_
  rfl
 refine pure_ (i := 1) (N := some 8) (v := ?_) (a' := ?_) #[true, true, false, false, false, false, false, false, false, false, false, false, false, false, false, false, false, false, false, false] rfl rfl (any_of HT_.out (by kernel_rfl)) (fun _ _ _ h => h) (Or.inl ⟨by rfl, ?_⟩) ?_ ?_
 rotate_left
 ·intro w'
  go_simp
  with_reducible rfl
 rotate_left
 ·refine ps_ ?_
  rfl
 refine pure_ (i := 3) (N := some 10) (v := ?_) (a' := ?_) #[true, true, false, true, false, false, false, false, false, false, false, false, false, false, false, false, false, false, false, false] rfl rfl (any_of HT_.out (by kernel_rfl)) (fun _ _ _ h => h) (Or.inl ⟨by rfl, ?_⟩) ?_ ?_
 rotate_left
 ·intro w'
  go_simp
  with_reducible rfl
 rotate_left
 ·refine ps_ ?_
  rfl
 refine pure_ (i := 6) (N := some 13) (v := ?_) (a' := ?_) #[true, true, false, true, false, false, true, false, false, false, false, false, false, false, false, false, false, false, false, false] rfl rfl (any_of HT_.out (by kernel_rfl)) (fun _ _ _ h => h) (Or.inl ⟨by rfl, ?_⟩) ?_ ?_
 rotate_left
 ·intro w'
  go_simp
  with_reducible rfl
 rotate_left
 ·refine ps_ ?_
  rfl
 refine pure_ (i := 7) (N := some 14) (v := ?_) (a' := ?_) #[true, true, false, true, false, false, true, true, false, false, false, false, false, false, false, false, false, false, false, false] rfl rfl (any_of HT_.out (by kernel_rfl)) (fun _ _ _ h => h) (Or.inl ⟨by rfl, ?_⟩) ?_ ?_
 rotate_left
 ·intro w'
  go_simp
  with_reducible rfl
 rotate_left
 ·refine ps_ ?_
  rfl
 refine pure_ (i := 9) (N := some 16) (v := ?_) (a' := ?_) #[true, true, false, true, false, false, true, true, false, true, false, false, false, false, false, false, false, false, false, false] rfl rfl (any_of HT_.out (by kernel_rfl)) (fun _ _ _ h => h) (Or.inl ⟨by rfl, ?_⟩) ?_ ?_
 rotate_left
 ·intro w'
  go_simp
  with_reducible rfl
 rotate_left
 ·refine ps_ ?_
  rfl
 refine pure_ (i := 12) (N := some 19) (v := ?_) (a' := ?_) #[true, true, false, true, false, false, true, true, false, true, false, false, true, false, false, false, false, false, false, false] rfl rfl (any_of HT_.out (by kernel_rfl)) (fun _ _ _ h => h) (Or.inl ⟨by rfl, ?_⟩) ?_ ?_
 rotate_left
 ·intro w'
  go_simp
  with_reducible rfl
 rotate_left
 ·refine ps_ ?_
  rfl
 refine pure_ (i := 13) (N := some 20) (v := ?_) (a' := ?_) #[true, true, false, true, false, false, true, true, false, true, false, false, true, true, false, false, false, false, false, false] rfl rfl (any_of HT_.out (by kernel_rfl)) (fun _ _ _ h => h) (Or.inl ⟨by rfl, ?_⟩) ?_ ?_
 rotate_left
 ·intro w'
  go_simp
  with_reducible rfl
 rotate_left
 ·refine ps_ ?_
  rfl
 refine pure_ (i := 15) (N := some 22) (v := ?_) (a' := ?_) #[true, true, false, true, false, false, true, true, false, true, false, false, true, true, false, true, false, false, false, false] rfl rfl (any_of HT_.out (by kernel_rfl)) (fun _ _ _ h => h) (Or.inl ⟨by rfl, ?_⟩) ?_ ?_
 rotate_left
 ·intro w'
  go_simp
  with_reducible rfl
 rotate_left
 ·refine ps_ ?_
  rfl
 refine take_ (i := 2) (N := some 9) (v := ?_) (a' := ?_) #[true, true, true, true, false, false, true, true, false, true, false, false, true, true, false, true, false, false, false, false] rfl rfl (take_ofW HT_.out HW_.out (by kernel_rfl)) (fun _ _ _ h => h) (Or.inl ⟨by rfl, ?_⟩) hHeld ?_ ?_
 rotate_left
 ·rintro w' ⟨s0, s1, s2, s3, s4, s5⟩
  go_simp
  with_reducible rfl
 rotate_left
 ·refine ps_ ?_
  rfl
 refine take_ (i := 4) (N := some 11) (v := ?_) (a' := ?_) #[true, true, true, true, true, false, true, true, false, true, false, false, true, true, false, true, false, false, false, false] rfl rfl (take_ofW HT_.out HW_.out (by kernel_rfl)) (fun _ _ _ h => h) (Or.inl ⟨by rfl, ?_⟩) hHeld ?_ ?_
 rotate_left
 ·rintro w' ⟨s0, s1, s2, s3, s4, s5⟩
  go_simp
  with_reducible rfl
 rotate_left
 ·refine ps_ ?_
  rfl
 refine take_ (i := 8) (N := some 15) (v := ?_) (a' := ?_) #[true, true, true, true, true, false, true, true, true, true, false, false, true, true, false, true, false, false, false, false] rfl rfl (take_ofW HT_.out HW_.out (by kernel_rfl)) (fun _ _ _ h => h) (Or.inl ⟨by rfl, ?_⟩) hHeld ?_ ?_
 rotate_left
 ·rintro w' ⟨s0, s1, s2, s3, s4, s5⟩
  go_simp
  with_reducible rfl
 rotate_left
 ·refine ps_ ?_
  rfl
 refine take_ (i := 10) (N := some 17) (v := ?_) (a' := ?_) #[true, true, true, true, true, false, true, true, true, true, true, false, true, true, false, true, false, false, false, false] rfl rfl (take_ofW HT_.out HW_.out (by kernel_rfl)) (fun _ _ _ h => h) (Or.inl ⟨by rfl, ?_⟩) hHeld ?_ ?_
 rotate_left
 ·rintro w' ⟨s0, s1, s2, s3, s4, s5⟩
  go_simp
  with_reducible rfl
 rotate_left
 ·refine ps_ ?_
  rfl
 refine take_ (i := 14) (N := some 21) (v := ?_) (a' := ?_) #[true, true, true, true, true, false, true, true, true, true, true, false, true, true, true, true, false, false, false, false] rfl rfl (take_ofW HT_.out HW_.out (by kernel_rfl)) (fun _ _ _ h => h) (Or.inl ⟨by rfl, ?_⟩) hHeld ?_ ?_
 rotate_left
 ·rintro w' ⟨s0, s1, s2, s3, s4, s5⟩
  go_simp
  with_reducible rfl
 rotate_left
 ·refine ps_ ?_
  rfl
 refine take_ (i := 16) (N := some 23) (v := ?_) (a' := ?_) #[true, true, true, true, true, false, true, true, true, true, true, false, true, true, true, true, true, false, false, false] rfl rfl (take_ofW HT_.out HW_.out (by kernel_rfl)) (fun _ _ _ h => h) (Or.inl ⟨by rfl, ?_⟩) hHeld ?_ ?_
 rotate_left
 ·rintro w' ⟨s0, s1, s2, s3, s4, s5⟩
  go_simp
  with_reducible rfl
 rotate_left
 ·refine ps_ ?_
  rfl
 refine one_ (i := 5) (N := some 12) #[true, true, true, true, true, true, true, true, true, true, true, false, true, true, true, true, true, false, false, false] rfl rfl (one_of HT_.out (by kernel_rfl)) (by decide) (fun K hK => ?_)
 refine goesD_ Try.func153 (by kernel_rfl) rfl #[.complex .f32 a0_0.re a0_0.im, .complex .f32 a1_0.re a1_0.im] (by rfl) rfl rfl (by rfl) mp_ ?_
 with_reducible refine (impl_minus.calls a0_0 a1_0 t344 _ A4.out).mono ?_
 rintro e w' ⟨rfl, ⟨nd, rfl⟩⟩
 refine ⟨_, rfl, ?_⟩
 refine hK.out _ _ ⟨(blk_cell BK341.out 0).trans rfl, (blk_cell BK341.out 1).trans rfl, (blk_cell BK341.out 2).trans rfl, (blk_cell BK342.out 0).trans rfl, (blk_cell BK342.out 1).trans rfl, (blk_cell BK342.out 2).trans rfl⟩ (fun hHeld => ?_)
 clear hK K
 refine norm_ (a' := ?_) ?_ ?_
 rotate_left
 ·show Act.put _ (some 12) _ = _
  refine ps_ ?_
  rfl
 refine one_ (i := 11) (N := some 18) #[true, true, true, true, true, true, true, true, true, true, true, true, true, true, true, true, true, false, false, false] rfl rfl (one_of HT_.out (by kernel_rfl)) (by decide) (fun K hK => ?_)
 refine goesD_ Try.func153 (by kernel_rfl) rfl #[.complex .f32 a0_1.re a0_1.im, .complex .f32 a1_1.re a1_1.im] (by rfl) rfl rfl (by rfl) mp_ ?_
 with_reducible refine (impl_minus.calls a0_1 a1_1 t345 _ A5.out).mono ?_
 rintro e w' ⟨rfl, ⟨nd, rfl⟩⟩
 refine ⟨_, rfl, ?_⟩
 refine hK.out _ _ ⟨(blk_cell BK341.out 0).trans rfl, (blk_cell BK341.out 1).trans rfl, (blk_cell BK341.out 2).trans rfl, (blk_cell BK342.out 0).trans rfl, (blk_cell BK342.out 1).trans rfl, (blk_cell BK342.out 2).trans rfl⟩ (fun hHeld => ?_)
 clear hK K
 refine norm_ (a' := ?_) ?_ ?_
 rotate_left
 ·show Act.put _ (some 18) _ = _
  refine ps_ ?_
  rfl
 refine one_ (i := 17) (N := some 24) #[true, true, true, true, true, true, true, true, true, true, true, true, true, true, true, true, true, true, false, false] rfl rfl (one_of HT_.out (by kernel_rfl)) (by decide) (fun K hK => ?_)
 refine goesD_ Try.func153 (by kernel_rfl) rfl #[.complex .f32 a0_2.re a0_2.im, .complex .f32 a1_2.re a1_2.im] (by rfl) rfl rfl (by rfl) mp_ ?_
 with_reducible refine (impl_minus.calls a0_2 a1_2 t346 _ A6.out).mono ?_
 rintro e w' ⟨rfl, ⟨nd, rfl⟩⟩
 refine ⟨_, rfl, ?_⟩
 refine hK.out _ _ ⟨(blk_cell BK341.out 0).trans rfl, (blk_cell BK341.out 1).trans rfl, (blk_cell BK341.out 2).trans rfl, (blk_cell BK342.out 0).trans rfl, (blk_cell BK342.out 1).trans rfl, (blk_cell BK342.out 2).trans rfl⟩ (fun hHeld => ?_)
 clear hK K
 refine norm_ (a' := ?_) ?_ ?_
 rotate_left
 ·show Act.put _ (some 24) _ = _
  refine ps_ ?_
  rfl
 refine pure_ (i := 18) (N := some 25) (v := ?_) (a' := ?_) #[true, true, true, true, true, true, true, true, true, true, true, true, true, true, true, true, true, true, true, false] rfl rfl (any_of HT_.out (by kernel_rfl)) (fun _ _ _ h => h) (Or.inl ⟨by rfl, ?_⟩) ?_ ?_
 rotate_left
 ·intro w'
  go_simp
  with_reducible rfl
 rotate_left
 ·refine ps_ ?_
  rfl
 refine one_ (i := 19) (N := none) #[true, true, true, true, true, true, true, true, true, true, true, true, true, true, true, true, true, true, true, true] rfl rfl (one_of HT_.out (by kernel_rfl)) (by decide) (fun K hK => ?_)
 have hs11 : w10.cell? ⟨gb343, 0, none⟩ = some (.complex .f32 0 0) := (blk_cell BK343.out 0).trans rfl
 have hfs11 := blk_frozen BK343.out 0
 have hns11_0 := NB341_343.out
 have hns11_1 := NB342_343.out
 have hms11_0 := NB343_341.out
 have hms11_1 := NB343_342.out
 have hs12 : w10.cell? ⟨gb343, 1, none⟩ = some (.complex .f32 0 0) := (blk_cell BK343.out 1).trans rfl
 have hfs12 := blk_frozen BK343.out 1
 have hns12_0 := NB341_343.out
 have hns12_1 := NB342_343.out
 have hms12_0 := NB343_341.out
 have hms12_1 := NB343_342.out
 have hs13 : w10.cell? ⟨gb343, 2, none⟩ = some (.complex .f32 0 0) := (blk_cell BK343.out 2).trans rfl
 have hfs13 := blk_frozen BK343.out 2
 have hns13_0 := NB341_343.out
 have hns13_1 := NB342_343.out
 have hms13_0 := NB343_341.out
 have hms13_1 := NB343_342.out
 refine skip_ (w1 := ?_) (by rfl) rfl ?_ ?_
 rotate_left
 ·go_simp
  rfl
 refine hK.out _ _ ⟨((cell_far (p := ⟨gb343, _, none⟩) NB341_343.out _).trans (((cell_far (p := ⟨gb343, _, none⟩) NB341_343.out _).trans (((cell_far (p := ⟨gb343, _, none⟩) NB341_343.out _).trans (hHeld.1)))))), ((cell_far (p := ⟨gb343, _, none⟩) NB341_343.out _).trans (((cell_far (p := ⟨gb343, _, none⟩) NB341_343.out _).trans (((cell_far (p := ⟨gb343, _, none⟩) NB341_343.out _).trans (hHeld.2.1)))))), ((cell_far (p := ⟨gb343, _, none⟩) NB341_343.out _).trans (((cell_far (p := ⟨gb343, _, none⟩) NB341_343.out _).trans (((cell_far (p := ⟨gb343, _, none⟩) NB341_343.out _).trans (hHeld.2.2.1)))))), ((cell_far (p := ⟨gb343, _, none⟩) NB342_343.out _).trans (((cell_far (p := ⟨gb343, _, none⟩) NB342_343.out _).trans (((cell_far (p := ⟨gb343, _, none⟩) NB342_343.out _).trans (hHeld.2.2.2.1)))))), ((cell_far (p := ⟨gb343, _, none⟩) NB342_343.out _).trans (((cell_far (p := ⟨gb343, _, none⟩) NB342_343.out _).trans (((cell_far (p := ⟨gb343, _, none⟩) NB342_343.out _).trans (hHeld.2.2.2.2.1)))))), ((cell_far (p := ⟨gb343, _, none⟩) NB342_343.out _).trans (((cell_far (p := ⟨gb343, _, none⟩) NB342_343.out _).trans (((cell_far (p := ⟨gb343, _, none⟩) NB342_343.out _).trans (hHeld.2.2.2.2.2))))))⟩ (fun hHeld => ?_)
 clear hK K
 refine done_ (done_of HT_.out (by kernel_rfl)) ?_
 try go_wp2
 refine bodyPost_ret (results_cell_row rfl _ _ gb343 39 #[.complex .f32 t344.re t344.im, .complex .f32 t345.re t345.im, .complex .f32 t346.re t346.im] (0, 0) _ rfl (by refine bu ?_; refine blk_put (cs := #[.complex .f32 t344.re t344.im, .complex .f32 t345.re t345.im, .complex .f32 0 0]) ?_ 2 _ rfl; refine bu ?_; refine blk_put (cs := #[.complex .f32 t344.re t344.im, .complex .f32 0 0, .complex .f32 0 0]) ?_ 1 _ rfl; refine bu ?_; refine blk_put (cs := #[.complex .f32 0 0, .complex .f32 0 0, .complex .f32 0 0]) ?_ 0 _ rfl; refine bu ?_; exact BK343.out) Try.underlying39 rfl (by kernel_rfl)) rfl ?_
 exact ⟨re_, tb⟩

end Go.Proofs.Ytcgpomicgbmdlaa.PFnBanks
namespace Go.Proofs.Ytcgpomicgbmdlaa.PFnBanks
open Go.RowKit Go.Proofs.YtcgpomicgbmdlaaW.PrintWords Go.Proofs.YtcgpomicgbmdlaaW.PrintLast Go.Proofs.YtcgpomicgbmdlaaW.PrintMore
attribute [local go_sem] max2_int min2_int max_two min_two max_three min_three max_four min_four   -- for this text's walks alone
set_option linter.unusedVariables false
set_option linter.unusedSimpArgs false

/-! ### impl_LessPhases: function 117 -/
def impl_LessPhases.f (a0_0 : Cx) (a0_1 : Cx) (a0_2 : Cx) (a1_0 : Cx) (a1_1 : Cx) (a1_2 : Cx) : Option (Cx × Cx × Cx) := (impl_each_f153.f a0_0 a0_1 a0_2 a1_0 a1_1 a1_2).bind fun bt350 => (some (bt350.1, bt350.2.1, bt350.2.2))
set_option maxHeartbeats 8000000 in
set_option maxRecDepth 100000 in
theorem impl_LessPhases.calls (a0_0 : Cx) (a0_1 : Cx) (a0_2 : Cx) (a1_0 : Cx) (a1_1 : Cx) (a1_2 : Cx) (r1 : Cx) (r2 : Cx) (r3 : Cx) (w : World) (h : impl_LessPhases.f a0_0 a0_1 a0_2 a1_0 a1_1 a1_2 = some (r1, r2, r3)) :
  Calls Try.prog 117 #[.agg #[.complex .f32 a0_0.re a0_0.im, .complex .f32 a0_1.re a0_1.im, .complex .f32 a0_2.re a0_2.im], .agg #[.complex .f32 a1_0.re a1_0.im, .complex .f32 a1_1.re a1_1.im, .complex .f32 a1_2.re a1_2.im]] w fun e w' => e = .returned (.agg #[.complex .f32 r1.re r1.im, .complex .f32 r2.re r2.im, .complex .f32 r3.re r3.im]) ∧ Below w.heap.size w w' := by
 have hu39 := Try.underlying39
 have HB := Aside0.mk (Below.refl w.heap.size w)
 have H : ((impl_each_f153.f a0_0 a0_1 a0_2 a1_0 a1_1 a1_2).bind fun bt350 => (some (bt350.1, bt350.2.1, bt350.2.2))) = some (r1, r2, r3) := h
 clear h
 replace H := Option.bind_eq_some_iff.mp H
 obtain ⟨⟨t350, t351, t352⟩, A30, H⟩ := H
 try dsimp only at H
 have A3 := Aside0.mk A30
 clear A30
 simp only [Option.some.injEq, Prod.mk.injEq] at H
 obtain ⟨rfl, rfl, rfl⟩ := H
 go_enter Try.func117, Try.ntmps117
 go_wp2_with (first | ((with_reducible refine gate_dst (N := 2) rfl ?_); refine box_event ?hg (N := 2) ?hd (cs := #[.complex .f32 a0_0.re a0_0.im, .complex .f32 a0_1.re a0_1.im, .complex .f32 a0_2.re a0_2.im]) (t := 39) ?hr ?_; (case hd => rfl); (case hg => rfl); (case hr => first | (go_simp; done) | (go_simp; rfl)); intro gb347 hg w4 hbox hb; have n0_ := Aside0.mk (below_step tb hb); have n1_ := Aside0.mk (hbox); have n2_ := Aside0.mk ((by rw [hg]; exact (below_size tb) : w.heap.size ≤ gb347)); have n3_ := Aside0.mk ((by rw [hg]; exact (below_size tb) : w.heap.size ≤ gb347)); clear HB; have HB := n0_; have BK347 := n1_; have GW347 := n2_; have GE347 := n3_; clear n0_ n1_ n2_ n3_; clear hb hbox hg) | ((with_reducible refine gate_dst (N := 3) rfl ?_); refine box_event ?hg (N := 3) ?hd (cs := #[.complex .f32 a1_0.re a1_0.im, .complex .f32 a1_1.re a1_1.im, .complex .f32 a1_2.re a1_2.im]) (t := 39) ?hr ?_; (case hd => rfl); (case hg => rfl); (case hr => first | (go_simp; done) | (go_simp; rfl)); intro gb348 hg w5 hbox hb; have n0_ := Aside0.mk (blk_below (g := gb347) (o := .cells #[.complex .f32 a0_0.re a0_0.im, .complex .f32 a0_1.re a0_1.im, .complex .f32 a0_2.re a0_2.im] 39 (0, 0)) (bu BK347.out) hb); have n1_ := Aside0.mk (below_step tb hb); have n2_ := Aside0.mk (hbox); have n3_ := Aside0.mk ((by rw [hg]; exact (below_size tb) : w.heap.size ≤ gb348)); have n4_ := Aside0.mk ((by rw [hg]; exact (below_size tb) : w.heap.size ≤ gb348)); have n5_ := Aside0.mk ((by rw [hg]; exact Nat.ne_of_lt (blk_lt (g := gb347) (o := .cells #[.complex .f32 a0_0.re a0_0.im, .complex .f32 a0_1.re a0_1.im, .complex .f32 a0_2.re a0_2.im] 39 (0, 0)) (bu BK347.out)) : gb347 ≠ gb348)); have n6_ := Aside0.mk ((by rw [hg]; exact Nat.ne_of_gt (blk_lt (g := gb347) (o := .cells #[.complex .f32 a0_0.re a0_0.im, .complex .f32 a0_1.re a0_1.im, .complex .f32 a0_2.re a0_2.im] 39 (0, 0)) (bu BK347.out)) : gb348 ≠ gb347)); clear BK347; clear HB; have BK347 := n0_; have HB := n1_; have BK348 := n2_; have GW348 := n3_; have GE348 := n4_; have NB347_348 := n5_; have NB348_347 := n6_; clear n0_ n1_ n2_ n3_ n4_ n5_ n6_; clear hb hbox hg) | ((with_reducible refine gate_dst (N := 4) rfl ?_); refine box_event ?hg (N := 4) ?hd (cs := #[.complex .f32 0 0, .complex .f32 0 0, .complex .f32 0 0]) (t := 39) ?hr ?_; (case hd => rfl); (case hg => rfl); (case hr => first | (go_simp; done) | (go_simp; rfl)); intro gb349 hg w6 hbox hb; have n0_ := Aside0.mk (blk_below (g := gb347) (o := .cells #[.complex .f32 a0_0.re a0_0.im, .complex .f32 a0_1.re a0_1.im, .complex .f32 a0_2.re a0_2.im] 39 (0, 0)) (bu BK347.out) hb); have n1_ := Aside0.mk (blk_below (g := gb348) (o := .cells #[.complex .f32 a1_0.re a1_0.im, .complex .f32 a1_1.re a1_1.im, .complex .f32 a1_2.re a1_2.im] 39 (0, 0)) (bu BK348.out) hb); have n2_ := Aside0.mk (below_step tb hb); have n3_ := Aside0.mk (hbox); have n4_ := Aside0.mk ((by rw [hg]; exact (below_size tb) : w.heap.size ≤ gb349)); have n5_ := Aside0.mk ((by rw [hg]; exact (below_size tb) : w.heap.size ≤ gb349)); have n6_ := Aside0.mk ((by rw [hg]; exact Nat.ne_of_lt (blk_lt (g := gb347) (o := .cells #[.complex .f32 a0_0.re a0_0.im, .complex .f32 a0_1.re a0_1.im, .complex .f32 a0_2.re a0_2.im] 39 (0, 0)) (bu BK347.out)) : gb347 ≠ gb349)); have n7_ := Aside0.mk ((by rw [hg]; exact Nat.ne_of_gt (blk_lt (g := gb347) (o := .cells #[.complex .f32 a0_0.re a0_0.im, .complex .f32 a0_1.re a0_1.im, .complex .f32 a0_2.re a0_2.im] 39 (0, 0)) (bu BK347.out)) : gb349 ≠ gb347)); have n8_ := Aside0.mk ((by rw [hg]; exact Nat.ne_of_lt (blk_lt (g := gb348) (o := .cells #[.complex .f32 a1_0.re a1_0.im, .complex .f32 a1_1.re a1_1.im, .complex .f32 a1_2.re a1_2.im] 39 (0, 0)) (bu BK348.out)) : gb348 ≠ gb349)); have n9_ := Aside0.mk ((by rw [hg]; exact Nat.ne_of_gt (blk_lt (g := gb348) (o := .cells #[.complex .f32 a1_0.re a1_0.im, .complex .f32 a1_1.re a1_1.im, .complex .f32 a1_2.re a1_2.im] 39 (0, 0)) (bu BK348.out)) : gb349 ≠ gb348)); clear BK347; clear BK348; clear HB; have BK347 := n0_; have BK348 := n1_; have HB := n2_; have BK349 := n3_; have GW349 := n4_; have GE349 := n5_; have NB347_349 := n6_; have NB349_347 := n7_; have NB348_349 := n8_; have NB349_348 := n9_; clear n0_ n1_ n2_ n3_ n4_ n5_ n6_ n7_ n8_ n9_; clear hb hbox hg; have hnb7 := NB347_348.out; have hnc7 := NB348_347.out; have hnb8 := NB347_349.out; have hnc8 := NB349_347.out; have hcz9_0 : w6.cell? ⟨gb347, 0, none⟩ = some (.complex .f32 a0_0.re a0_0.im) := (blk_cell BK347.out 0).trans rfl; have hcz9_1 : w6.cell? ⟨gb347, 1, none⟩ = some (.complex .f32 a0_1.re a0_1.im) := (blk_cell BK347.out 1).trans rfl; have hcz9_2 : w6.cell? ⟨gb347, 2, none⟩ = some (.complex .f32 a0_2.re a0_2.im) := (blk_cell BK347.out 2).trans rfl; have hfz9_0 := blk_frozen BK347.out 0; have hfz9_1 := blk_frozen BK347.out 1; have hfz9_2 := blk_frozen BK347.out 2; have hnb10 := NB348_349.out; have hnc10 := NB349_348.out; have hcz11_0 : w6.cell? ⟨gb348, 0, none⟩ = some (.complex .f32 a1_0.re a1_0.im) := (blk_cell BK348.out 0).trans rfl; have hcz11_1 : w6.cell? ⟨gb348, 1, none⟩ = some (.complex .f32 a1_1.re a1_1.im) := (blk_cell BK348.out 1).trans rfl; have hcz11_2 : w6.cell? ⟨gb348, 2, none⟩ = some (.complex .f32 a1_2.re a1_2.im) := (blk_cell BK348.out 2).trans rfl; have hfz11_0 := blk_frozen BK348.out 0; have hfz11_1 := blk_frozen BK348.out 1; have hfz11_2 := blk_frozen BK348.out 2) | ((with_reducible refine gate_callee (f := 152) rfl ?_); refine gx_ (some 7) Try.func152 #[.agg #[.complex .f32 a0_0.re a0_0.im, .complex .f32 a0_1.re a0_1.im, .complex .f32 a0_2.re a0_2.im], .agg #[.complex .f32 a1_0.re a1_0.im, .complex .f32 a1_1.re a1_1.im, .complex .f32 a1_2.re a1_2.im], .func (.func 153) #[] #[]] ?_; (with_reducible refine (impl_each_f153.calls a0_0 a0_1 a0_2 a1_0 a1_1 a1_2  t350 t351 t352 _ A3.out).mono ?_); rintro e w12 ⟨rfl, hb⟩; refine ⟨_, rfl, ?_⟩; have n0_ := Aside0.mk (blk_below (g := gb347) (o := .cells #[.complex .f32 a0_0.re a0_0.im, .complex .f32 a0_1.re a0_1.im, .complex .f32 a0_2.re a0_2.im] 39 (0, 0)) (bu BK347.out) hb); have n1_ := Aside0.mk (blk_below (g := gb348) (o := .cells #[.complex .f32 a1_0.re a1_0.im, .complex .f32 a1_1.re a1_1.im, .complex .f32 a1_2.re a1_2.im] 39 (0, 0)) (bu BK348.out) hb); have n2_ := Aside0.mk (blk_below (g := gb349) (o := .cells #[.complex .f32 0 0, .complex .f32 0 0, .complex .f32 0 0] 39 (0, 0)) (bu BK349.out) hb); have n3_ := Aside0.mk (below_step tb hb); clear BK347; clear BK348; clear BK349; clear HB; have BK347 := n0_; have BK348 := n1_; have BK349 := n2_; have HB := n3_; clear n0_ n1_ n2_ n3_; (try clear hb); (try clear hb2); (try clear hk); (try clear hi); have hcz13_0 : w12.cell? ⟨gb349, 0, none⟩ = some (.complex .f32 0 0) := (blk_cell BK349.out 0).trans rfl; have hcz13_1 : w12.cell? ⟨gb349, 1, none⟩ = some (.complex .f32 0 0) := (blk_cell BK349.out 1).trans rfl; have hcz13_2 : w12.cell? ⟨gb349, 2, none⟩ = some (.complex .f32 0 0) := (blk_cell BK349.out 2).trans rfl; have hfz13_0 := blk_frozen BK349.out 0; have hfz13_1 := blk_frozen BK349.out 1; have hfz13_2 := blk_frozen BK349.out 2))
 refine bodyPost_ret (results_cell_row rfl _ _ gb349 39 #[.complex .f32 t350.re t350.im, .complex .f32 t351.re t351.im, .complex .f32 t352.re t352.im] (0, 0) _ rfl (by refine bu ?_; refine blk_put (cs := #[.complex .f32 t350.re t350.im, .complex .f32 t351.re t351.im, .complex .f32 0 0]) ?_ 2 _ rfl; refine bu ?_; refine blk_put (cs := #[.complex .f32 t350.re t350.im, .complex .f32 0 0, .complex .f32 0 0]) ?_ 1 _ rfl; refine bu ?_; refine blk_put (cs := #[.complex .f32 0 0, .complex .f32 0 0, .complex .f32 0 0]) ?_ 0 _ rfl; refine bu ?_; exact BK349.out) Try.underlying39 rfl (by kernel_rfl)) rfl ?_
 exact ⟨re_, tb⟩

end Go.Proofs.Ytcgpomicgbmdlaa.PFnBanks
namespace Go.Proofs.Ytcgpomicgbmdlaa.PFnBanks
open Go.RowKit Go.Proofs.YtcgpomicgbmdlaaW.PrintWords Go.Proofs.YtcgpomicgbmdlaaW.PrintLast Go.Proofs.YtcgpomicgbmdlaaW.PrintMore
attribute [local go_sem] max2_int min2_int max_two min_two max_three min_three max_four min_four   -- for this text's walks alone
set_option linter.unusedVariables false
set_option linter.unusedSimpArgs false

/-! ### impl_MulComplex: function 71 -/
def impl_MulComplex.f (a0 : Cx) (a1 : Cx) : Option (Cx) := (impl_wide.f a0).bind fun bt353 => ((impl_wide.f a1).bind fun bt355 => (if fok .mul .f64 bt353.1 bt355.1 = true then (if fok .mul .f64 bt353.2 bt355.2 = true then (if fok .sub .f64 (fv .mul .f64 bt353.1 bt355.1) (fv .mul .f64 bt353.2 bt355.2) = true then (if cvok .f64 (fv .sub .f64 (fv .mul .f64 bt353.1 bt355.1) (fv .mul .f64 bt353.2 bt355.2)) .f32 = true then (if fok .mul .f64 bt353.1 bt355.2 = true then (if fok .mul .f64 bt353.2 bt355.1 = true then (if fok .add .f64 (fv .mul .f64 bt353.1 bt355.2) (fv .mul .f64 bt353.2 bt355.1) = true then (if cvok .f64 (fv .add .f64 (fv .mul .f64 bt353.1 bt355.2) (fv .mul .f64 bt353.2 bt355.1)) .f32 = true then (some (⟨cv .f64 (fv .sub .f64 (fv .mul .f64 bt353.1 bt355.1) (fv .mul .f64 bt353.2 bt355.2)) .f32, cv .f64 (fv .add .f64 (fv .mul .f64 bt353.1 bt355.2) (fv .mul .f64 bt353.2 bt355.1)) .f32⟩ : Cx)) else (none)) else (none)) else (none)) else (none)) else (none)) else (none)) else (none)) else (none)))
set_option maxHeartbeats 8000000 in
set_option maxRecDepth 100000 in
theorem impl_MulComplex.calls (a0 : Cx) (a1 : Cx) (r : Cx) (w : World) (h : impl_MulComplex.f a0 a1 = some r) :
  Calls Try.prog 71 #[.complex .f32 a0.re a0.im, .complex .f32 a1.re a1.im] w fun e w' => e = .returned (.complex .f32 r.re r.im) ∧ Below w.heap.size w w' := by
 have HB := Aside0.mk (Below.refl w.heap.size w)
 have H : ((impl_wide.f a0).bind fun bt353 => ((impl_wide.f a1).bind fun bt355 => (if fok .mul .f64 bt353.1 bt355.1 = true then (if fok .mul .f64 bt353.2 bt355.2 = true then (if fok .sub .f64 (fv .mul .f64 bt353.1 bt355.1) (fv .mul .f64 bt353.2 bt355.2) = true then (if cvok .f64 (fv .sub .f64 (fv .mul .f64 bt353.1 bt355.1) (fv .mul .f64 bt353.2 bt355.2)) .f32 = true then (if fok .mul .f64 bt353.1 bt355.2 = true then (if fok .mul .f64 bt353.2 bt355.1 = true then (if fok .add .f64 (fv .mul .f64 bt353.1 bt355.2) (fv .mul .f64 bt353.2 bt355.1) = true then (if cvok .f64 (fv .add .f64 (fv .mul .f64 bt353.1 bt355.2) (fv .mul .f64 bt353.2 bt355.1)) .f32 = true then (some (⟨cv .f64 (fv .sub .f64 (fv .mul .f64 bt353.1 bt355.1) (fv .mul .f64 bt353.2 bt355.2)) .f32, cv .f64 (fv .add .f64 (fv .mul .f64 bt353.1 bt355.2) (fv .mul .f64 bt353.2 bt355.1)) .f32⟩ : Cx)) else (none)) else (none)) else (none)) else (none)) else (none)) else (none)) else (none)) else (none)))) = some r := h
 clear h
 replace H := Option.bind_eq_some_iff.mp H
 obtain ⟨⟨t353, t354⟩, A30, H⟩ := H
 try dsimp only at H
 have A3 := Aside0.mk A30
 clear A30
 replace H := Option.bind_eq_some_iff.mp H
 obtain ⟨⟨t355, t356⟩, A40, H⟩ := H
 try dsimp only at H
 have A4 := Aside0.mk A40
 clear A40
 by_cases c5 : fok .mul .f64 t353 t355 = true
 ·rw [if_pos c5] at H
  have c5b0 := eq_true c5
  have c5b1 : decide (fok .mul .f64 t353 t355 = true) = true := decide_eq_true c5
  clear c5
  by_cases c6 : fok .mul .f64 t354 t356 = true
  ·rw [if_pos c6] at H
   have c6b0 := eq_true c6
   have c6b1 : decide (fok .mul .f64 t354 t356 = true) = true := decide_eq_true c6
   clear c6
   by_cases c7 : fok .sub .f64 (fv .mul .f64 t353 t355) (fv .mul .f64 t354 t356) = true
   ·rw [if_pos c7] at H
    have c7b0 := eq_true c7
    have c7b1 : decide (fok .sub .f64 (fv .mul .f64 t353 t355) (fv .mul .f64 t354 t356) = true) = true := decide_eq_true c7
    clear c7
    by_cases c8 : cvok .f64 (fv .sub .f64 (fv .mul .f64 t353 t355) (fv .mul .f64 t354 t356)) .f32 = true
    ·rw [if_pos c8] at H
     have c8b0 := eq_true c8
     have c8b1 : decide (cvok .f64 (fv .sub .f64 (fv .mul .f64 t353 t355) (fv .mul .f64 t354 t356)) .f32 = true) = true := decide_eq_true c8
     clear c8
     by_cases c9 : fok .mul .f64 t353 t356 = true
     ·rw [if_pos c9] at H
      have c9b0 := eq_true c9
      have c9b1 : decide (fok .mul .f64 t353 t356 = true) = true := decide_eq_true c9
      clear c9
      by_cases c10 : fok .mul .f64 t354 t355 = true
      ·rw [if_pos c10] at H
       have c10b0 := eq_true c10
       have c10b1 : decide (fok .mul .f64 t354 t355 = true) = true := decide_eq_true c10
       clear c10
       by_cases c11 : fok .add .f64 (fv .mul .f64 t353 t356) (fv .mul .f64 t354 t355) = true
       ·rw [if_pos c11] at H
        have c11b0 := eq_true c11
        have c11b1 : decide (fok .add .f64 (fv .mul .f64 t353 t356) (fv .mul .f64 t354 t355) = true) = true := decide_eq_true c11
        clear c11
        by_cases c12 : cvok .f64 (fv .add .f64 (fv .mul .f64 t353 t356) (fv .mul .f64 t354 t355)) .f32 = true
        ·rw [if_pos c12] at H
         have c12b0 := eq_true c12
         have c12b1 : decide (cvok .f64 (fv .add .f64 (fv .mul .f64 t353 t356) (fv .mul .f64 t354 t355)) .f32 = true) = true := decide_eq_true c12
         clear c12
         obtain rfl := Option.some.inj H
         go_enter Try.func71, Try.ntmps71
         go_wp2_with (first | ((with_reducible refine gate_callee (f := 126) rfl ?_); refine gx_ (some 11) Try.func126 #[.complex .f32 a0.re a0.im] ?_; (with_reducible refine (impl_wide.calls a0 t353 t354 _ A3.out).mono ?_); rintro e w13 ⟨rfl, hb⟩; refine ⟨_, rfl, ?_⟩; have n0_ := Aside0.mk (below_step tb hb); clear HB; have HB := n0_; clear n0_; (try clear hb); (try clear hb2); (try clear hk); (try clear hi)) | ((with_reducible refine gate_callee (f := 126) rfl ?_); refine gx_ (some 16) Try.func126 #[.complex .f32 a1.re a1.im] ?_; (with_reducible refine (impl_wide.calls a1 t355 t356 _ A4.out).mono ?_); rintro e w14 ⟨rfl, hb⟩; refine ⟨_, rfl, ?_⟩; have n0_ := Aside0.mk (below_step tb hb); clear HB; have HB := n0_; clear n0_; (try clear hb); (try clear hb2); (try clear hk); (try clear hi)))
         go_ret
         exact ⟨re_, tb⟩
        ·rw [if_neg c12] at H
         exact absurd H (by simp)
       ·rw [if_neg c11] at H
        exact absurd H (by simp)
      ·rw [if_neg c10] at H
       exact absurd H (by simp)
     ·rw [if_neg c9] at H
      exact absurd H (by simp)
    ·rw [if_neg c8] at H
     exact absurd H (by simp)
   ·rw [if_neg c7] at H
    exact absurd H (by simp)
  ·rw [if_neg c6] at H
   exact absurd H (by simp)
 ·rw [if_neg c5] at H
  exact absurd H (by simp)

end Go.Proofs.Ytcgpomicgbmdlaa.PFnBanks
namespace Go.Proofs.Ytcgpomicgbmdlaa.PFnBanks
open Go.RowKit Go.Proofs.YtcgpomicgbmdlaaW.PrintWords Go.Proofs.YtcgpomicgbmdlaaW.PrintLast Go.Proofs.YtcgpomicgbmdlaaW.PrintMore
attribute [local go_sem] max2_int min2_int max_two min_two max_three min_three max_four min_four   -- for this text's walks alone
set_option linter.unusedVariables false
set_option linter.unusedSimpArgs false

/-! ### impl_DropOf_1: function 170 -/
def impl_DropOf_1.f (a0 : Cx) (a1 : Cx) (a2 : Cx) (s3_0 : Int) (s3_1 : Cx) (s3_2 : Cx) (s3_3 : Int) (s3_4 : Cx) (s3_5 : Cx) (s3_6 : Cx) (s3_7 : Int) : Option (Cx × Int × Cx × Cx × Int × Cx × Cx × Cx × Int) := (impl_MulComplex.f s3_1 a0).bind fun t357 => (if fok .add .f32 a1.re a2.re = true then (if fok .add .f32 a1.im a2.im = true then ((impl_MulComplex.f s3_2 (⟨fv .add .f32 a1.re a2.re, fv .add .f32 a1.im a2.im⟩ : Cx)).bind fun t358 => (if fok .add .f32 t357.re t358.re = true then (if fok .add .f32 t357.im t358.im = true then (some ((⟨fv .add .f32 t357.re t358.re, fv .add .f32 t357.im t358.im⟩ : Cx), s3_0, s3_1, s3_2, s3_3, s3_4, s3_5, s3_6, s3_7)) else (none)) else (none))) else (none)) else (none))
def impl_DropOf_1.T1 : Bool × List (List Nat × List Nat) := (true, [([], []), ([0], [0]), ([], []), ([1, 2], [1, 2]), ([], []), ([4], [4]), ([], []), ([], []), ([6, 7], [6, 7]), ([5, 8, 3], [5, 8]), ([3, 9], [3, 9]), ([10, 9, 0, 1, 2, 3, 4, 5, 6, 7, 8, 9, 10], [10])])
def impl_DropOf_1.B1 : List Nat := [0, 1, 0, 7, 0, 16, 0, 0, 192, 511, 1023, 2047]
theorem impl_DropOf_1.tab1 : rtab .any (opsOf Try.f170 1) = impl_DropOf_1.T1 := by kernel_rfl
theorem impl_DropOf_1.bits1 : waitsOk impl_DropOf_1.T1.2 impl_DropOf_1.B1 = true := by kernel_rfl
set_option maxHeartbeats 8000000 in
set_option maxRecDepth 100000 in
theorem impl_DropOf_1.calls (a0 : Cx) (a1 : Cx) (a2 : Cx) (g : Nat) (s3_0 : Int) (s3_1 : Cx) (s3_2 : Cx) (s3_3 : Int) (s3_4 : Cx) (s3_5 : Cx) (s3_6 : Cx) (s3_7 : Int) (r1 : Cx) (r2 : Int) (r3 : Cx) (r4 : Cx) (r5 : Int) (r6 : Cx) (r7 : Cx) (r8 : Cx) (r9 : Int) (w0 w : World) (hI : IsS66 w0 w g s3_0 s3_1 s3_2 s3_3 s3_4 s3_5 s3_6 s3_7) (hB : Below w0.heap.size w0 w) (h : impl_DropOf_1.f a0 a1 a2 s3_0 s3_1 s3_2 s3_3 s3_4 s3_5 s3_6 s3_7 = some (r1, r2, r3, r4, r5, r6, r7, r8, r9)) :
  Calls Try.prog 170 #[.complex .f32 a0.re a0.im, .complex .f32 a1.re a1.im, .complex .f32 a2.re a2.im, .pointer (some ⟨g, 0, none⟩)] w fun e w' => e = .returned (.complex .f32 r1.re r1.im) ∧ IsS66 w0 w' g r2 r3 r4 r5 r6 r7 r8 r9 ∧ Below w0.heap.size w0 w' ∧ KeepBut w w' g none := by
 have HI3 := Aside0.mk hI
 have HK := Aside0.mk (KeepBut.refl w g none)
 have HL := Aside0.mk hB.size
 clear hI
 have HW0 := Aside0.mk hB.size
 have HB := Aside0.mk hB
 clear hB
 have H : ((impl_MulComplex.f s3_1 a0).bind fun t357 => (if fok .add .f32 a1.re a2.re = true then (if fok .add .f32 a1.im a2.im = true then ((impl_MulComplex.f s3_2 (⟨fv .add .f32 a1.re a2.re, fv .add .f32 a1.im a2.im⟩ : Cx)).bind fun t358 => (if fok .add .f32 t357.re t358.re = true then (if fok .add .f32 t357.im t358.im = true then (some ((⟨fv .add .f32 t357.re t358.re, fv .add .f32 t357.im t358.im⟩ : Cx), s3_0, s3_1, s3_2, s3_3, s3_4, s3_5, s3_6, s3_7)) else (none)) else (none))) else (none)) else (none))) = some (r1, r2, r3, r4, r5, r6, r7, r8, r9) := h
 clear h
 replace H := Option.bind_eq_some_iff.mp H
 obtain ⟨t357, A50, H⟩ := H
 try dsimp only at H
 have A5 := Aside0.mk A50
 clear A50
 by_cases c6 : fok .add .f32 a1.re a2.re = true
 ·rw [if_pos c6] at H
  have c6b0 := eq_true c6
  have c6b1 : decide (fok .add .f32 a1.re a2.re = true) = true := decide_eq_true c6
  clear c6
  by_cases c7 : fok .add .f32 a1.im a2.im = true
  ·rw [if_pos c7] at H
   have c7b0 := eq_true c7
   have c7b1 : decide (fok .add .f32 a1.im a2.im = true) = true := decide_eq_true c7
   clear c7
   replace H := Option.bind_eq_some_iff.mp H
   obtain ⟨t358, A80, H⟩ := H
   try dsimp only at H
   have A8 := Aside0.mk A80
   clear A80
   by_cases c9 : fok .add .f32 t357.re t358.re = true
   ·rw [if_pos c9] at H
    have c9b0 := eq_true c9
    have c9b1 : decide (fok .add .f32 t357.re t358.re = true) = true := decide_eq_true c9
    clear c9
    by_cases c10 : fok .add .f32 t357.im t358.im = true
    ·rw [if_pos c10] at H
     have c10b0 := eq_true c10
     have c10b1 : decide (fok .add .f32 t357.im t358.im = true) = true := decide_eq_true c10
     clear c10
     simp only [Option.some.injEq, Prod.mk.injEq] at H
     obtain ⟨rfl, rfl, rfl, rfl, rfl, rfl, rfl, rfl, rfl⟩ := H
     go_enter Try.func170, Try.ntmps170
     try go_wp2
     have n0_ := Aside0.mk (IsS66.drew HI3.out)
     have n1_ := Aside0.mk (keep_drew HK.out)
     have n2_ := Aside0.mk (below_drew1 HB.out)
     clear HI3
     clear HK
     clear HB
     have HI3 := n0_
     have HK := n1_
     have HB := n2_
     clear n0_ n1_ n2_
     refine start_ (n := 12) (S := fun w' => w'.cell? ⟨g, 0, none⟩ = some (.int .i64 s3_0) ∧ w'.cell? ⟨g, 1, none⟩ = some (.complex .f32 s3_1.re s3_1.im) ∧ w'.cell? ⟨g, 2, none⟩ = some (.complex .f32 s3_2.re s3_2.im) ∧ w'.cell? ⟨g, 3, none⟩ = some (.int .i64 s3_3) ∧ w'.cell? ⟨g, 4, none⟩ = some (.complex .f32 s3_4.re s3_4.im) ∧ w'.cell? ⟨g, 5, none⟩ = some (.complex .f32 s3_5.re s3_5.im) ∧ w'.cell? ⟨g, 6, none⟩ = some (.complex .f32 s3_6.re s3_6.im) ∧ w'.cell? ⟨g, 7, none⟩ = some (.int .i64 s3_7)) (ds := []) #[false, false, false, false, false, false, false, false, false, false, false, false] (by kernel_rfl) rfl rfl ⟨(IsS66.cell_0 HI3.out), (IsS66.cell_1 HI3.out), (IsS66.cell_2 HI3.out), (IsS66.cell_3 HI3.out), (IsS66.cell_4 HI3.out), (IsS66.cell_5 HI3.out), (IsS66.cell_6 HI3.out), (IsS66.cell_7 HI3.out)⟩ (fun hHeld => ?_); refine with_tabW impl_DropOf_1.tab1 impl_DropOf_1.bits1 (fun HT_ HW_ => ?_)
     generalize w.drew = w11 at HI3 HK HB hHeld ⊢
     refine pure_ (i := 0) (N := some 8) (v := ?_) (a' := ?_) #[true, false, false, false, false, false, false, false, false, false, false, false] rfl rfl (any_of HT_.out (by kernel_rfl)) (fun _ _ _ h => h) (Or.inl ⟨by rfl, ?_⟩) ?_ ?_
     rotate_left
     ·intro w'
      go_simp
      with_reducible rfl
     rotate_left
     ·refine ps_ ?_
      rfl
     refine pure_ (i := 2) (N := some 10) (v := ?_) (a' := ?_) #[true, false, true, false, false, false, false, false, false, false, false, false] rfl rfl (any_of HT_.out (by kernel_rfl)) (fun _ _ _ h => h) (Or.inl ⟨by rfl, ?_⟩) ?_ ?_
     rotate_left
     ·intro w'
      go_simp
      with_reducible rfl
     rotate_left
     ·refine ps_ ?_
      rfl
     refine pure_ (i := 4) (N := some 12) (v := ?_) (a' := ?_) #[true, false, true, false, true, false, false, false, false, false, false, false] rfl rfl (any_of HT_.out (by kernel_rfl)) (fun _ _ _ h => h) (Or.inl ⟨by rfl, ?_⟩) ?_ ?_
     rotate_left
     ·intro w'
      go_simp
      with_reducible rfl
     rotate_left
     ·refine ps_ ?_
      rfl
     refine pure_ (i := 6) (N := some 14) (v := ?_) (a' := ?_) #[true, false, true, false, true, false, true, false, false, false, false, false] rfl rfl (any_of HT_.out (by kernel_rfl)) (fun _ _ _ h => h) (Or.inl ⟨by rfl, ?_⟩) ?_ ?_
     rotate_left
     ·intro w'
      go_simp
      with_reducible rfl
     rotate_left
     ·refine ps_ ?_
      rfl
     refine pure_ (i := 7) (N := some 15) (v := ?_) (a' := ?_) #[true, false, true, false, true, false, true, true, false, false, false, false] rfl rfl (any_of HT_.out (by kernel_rfl)) (fun _ _ _ h => h) (Or.inl ⟨by rfl, ?_⟩) ?_ ?_
     rotate_left
     ·intro w'
      go_simp
      with_reducible rfl
     rotate_left
     ·refine ps_ ?_
      rfl
     refine pure_ (i := 8) (N := some 16) (v := ?_) (a' := ?_) #[true, false, true, false, true, false, true, true, true, false, false, false] rfl rfl (any_of HT_.out (by kernel_rfl)) (fun _ _ _ h => h) (Or.inl ⟨by rfl, ?_⟩) ?_ ?_
     rotate_left
     ·intro w'
      go_simp
      with_reducible rfl
     rotate_left
     ·refine ps_ ?_
      rfl
     refine take_ (i := 1) (N := some 9) (v := ?_) (a' := ?_) #[true, true, true, false, true, false, true, true, true, false, false, false] rfl rfl (take_ofW HT_.out HW_.out (by kernel_rfl)) (fun _ _ _ h => h) (Or.inl ⟨by rfl, ?_⟩) hHeld ?_ ?_
     rotate_left
     ·rintro w' ⟨s0, s1, s2, s3, s4, s5, s6, s7⟩
      go_simp
      with_reducible rfl
     rotate_left
     ·refine ps_ ?_
      rfl
     refine take_ (i := 5) (N := some 13) (v := ?_) (a' := ?_) #[true, true, true, false, true, true, true, true, true, false, false, false] rfl rfl (take_ofW HT_.out HW_.out (by kernel_rfl)) (fun _ _ _ h => h) (Or.inl ⟨by rfl, ?_⟩) hHeld ?_ ?_
     rotate_left
     ·rintro w' ⟨s0, s1, s2, s3, s4, s5, s6, s7⟩
      go_simp
      with_reducible rfl
     rotate_left
     ·refine ps_ ?_
      rfl
     refine one_ (i := 3) (N := some 11) #[true, true, true, true, true, true, true, true, true, false, false, false] rfl rfl (one_of HT_.out (by kernel_rfl)) (by decide) (fun K hK => ?_)
     refine goes_ Try.func71 (by kernel_rfl) rfl #[.complex .f32 s3_1.re s3_1.im, .complex .f32 a0.re a0.im] (by rfl) rfl rfl mp_ ?_
     with_reducible refine (impl_MulComplex.calls s3_1 a0 t357 _ A5.out).mono ?_
     rintro e w12 ⟨rfl, hb⟩
     refine ⟨_, rfl, ?_⟩
     have n0_ := Aside0.mk (IsS66.below (by have hi_ := HI3.out; exact IsS66.up) hb)
     have n1_ := Aside0.mk (KeepBut.trans (by repeat (first | (with_reducible first | exact HK.out | apply KeepBut.set_ | apply keep_drewN | apply keep_drew | apply keep_alloc) | exact HK.out)) (KeepBut.of_below hb g none) (.inl rfl))
     have n2_ := Aside0.mk (below_step (by have ge_ := IsS66.ge HI3.out; exact tb) hb)
     clear HI3
     clear HK
     clear HB
     have HI3 := n0_
     have HK := n1_
     have HB := n2_
     clear n0_ n1_ n2_
     (try clear hb)
     (try clear hb2)
     (try clear hk)
     (try clear hi)
     refine hK.out _ _ ⟨(IsS66.cell_0 HI3.out), (IsS66.cell_1 HI3.out), (IsS66.cell_2 HI3.out), (IsS66.cell_3 HI3.out), (IsS66.cell_4 HI3.out), (IsS66.cell_5 HI3.out), (IsS66.cell_6 HI3.out), (IsS66.cell_7 HI3.out)⟩ (fun hHeld => ?_)
     clear hK K
     refine norm_ (a' := ?_) ?_ ?_
     rotate_left
     ·show Act.put _ (some 11) _ = _
      refine ps_ ?_
      rfl
     refine one_ (i := 9) (N := some 17) #[true, true, true, true, true, true, true, true, true, true, false, false] rfl rfl (one_of HT_.out (by kernel_rfl)) (by decide) (fun K hK => ?_)
     refine goes_ Try.func71 (by kernel_rfl) rfl #[.complex .f32 s3_2.re s3_2.im, .complex .f32 (fv .add .f32 a1.re a2.re) (fv .add .f32 a1.im a2.im)] (by rfl) rfl rfl mp_ ?_
     with_reducible refine (impl_MulComplex.calls s3_2 (⟨fv .add .f32 a1.re a2.re, fv .add .f32 a1.im a2.im⟩ : Cx) t358 _ A8.out).mono ?_
     rintro e w13 ⟨rfl, hb⟩
     refine ⟨_, rfl, ?_⟩
     have n0_ := Aside0.mk (IsS66.below (by have hi_ := HI3.out; exact IsS66.up) hb)
     have n1_ := Aside0.mk (KeepBut.trans (by repeat (first | (with_reducible first | exact HK.out | apply KeepBut.set_ | apply keep_drewN | apply keep_drew | apply keep_alloc) | exact HK.out)) (KeepBut.of_below hb g none) (.inl rfl))
     have n2_ := Aside0.mk (below_step (by have ge_ := IsS66.ge HI3.out; exact tb) hb)
     clear HI3
     clear HK
     clear HB
     have HI3 := n0_
     have HK := n1_
     have HB := n2_
     clear n0_ n1_ n2_
     (try clear hb)
     (try clear hb2)
     (try clear hk)
     (try clear hi)
     refine hK.out _ _ ⟨(IsS66.cell_0 HI3.out), (IsS66.cell_1 HI3.out), (IsS66.cell_2 HI3.out), (IsS66.cell_3 HI3.out), (IsS66.cell_4 HI3.out), (IsS66.cell_5 HI3.out), (IsS66.cell_6 HI3.out), (IsS66.cell_7 HI3.out)⟩ (fun hHeld => ?_)
     clear hK K
     refine norm_ (a' := ?_) ?_ ?_
     rotate_left
     ·show Act.put _ (some 17) _ = _
      refine ps_ ?_
      rfl
     refine pure_ (i := 10) (N := some 18) (v := ?_) (a' := ?_) #[true, true, true, true, true, true, true, true, true, true, true, false] rfl rfl (any_of HT_.out (by kernel_rfl)) (fun _ _ _ h => h) (Or.inl ⟨by rfl, ?_⟩) ?_ ?_
     rotate_left
     ·intro w'
      go_simp
      with_reducible rfl
     rotate_left
     ·refine ps_ ?_
      rfl
     refine pure_ (i := 11) (N := some 7) (v := ?_) (a' := ?_) #[true, true, true, true, true, true, true, true, true, true, true, true] rfl rfl (any_of HT_.out (by kernel_rfl)) (fun _ _ _ h => h) (Or.inl ⟨by rfl, ?_⟩) ?_ ?_
     rotate_left
     ·intro w'
      go_simp
      with_reducible rfl
     rotate_left
     ·refine ps_ ?_
      rfl
     refine done_ (done_of HT_.out (by kernel_rfl)) ?_
     try go_wp2
     go_ret
     exact ⟨re_, by have hi_ := HI3.out; exact IsS66.up, by have ge_ := IsS66.ge HI3.out; exact tb, by repeat (first | (with_reducible first | exact HK.out | apply KeepBut.set_ | apply keep_drewN | apply keep_drew | apply keep_alloc) | exact HK.out)⟩
    ·rw [if_neg c10] at H
     exact absurd H (by simp)
   ·rw [if_neg c9] at H
    exact absurd H (by simp)
  ·rw [if_neg c7] at H
   exact absurd H (by simp)
 ·rw [if_neg c6] at H
  exact absurd H (by simp)

end Go.Proofs.Ytcgpomicgbmdlaa.PFnBanks
namespace Go.Proofs.Ytcgpomicgbmdlaa.PFnBanks
open Go.RowKit Go.Proofs.YtcgpomicgbmdlaaW.PrintWords Go.Proofs.YtcgpomicgbmdlaaW.PrintLast Go.Proofs.YtcgpomicgbmdlaaW.PrintMore
attribute [local go_sem] max2_int min2_int max_two min_two max_three min_three max_four min_four   -- for this text's walks alone
set_option linter.unusedVariables false
set_option linter.unusedSimpArgs false

/-! ### impl_DropOf: function 151 -/
def impl_DropOf.f (a0_0 : Int) (a0_1 : Cx) (a0_2 : Cx) (a0_3 : Int) (a0_4 : Cx) (a0_5 : Cx) (a0_6 : Cx) (a0_7 : Int) (a1_0 : Cx) (a1_1 : Cx) (a1_2 : Cx) : Option (Cx × Cx × Cx) := (impl_DropOf_1.f a1_0 a1_1 a1_2 a0_0 a0_1 a0_2 a0_3 a0_4 a0_5 a0_6 a0_7).bind fun bt363 => ((impl_DropOf_1.f a1_1 a1_2 a1_0 bt363.2.1 bt363.2.2.1 bt363.2.2.2.1 bt363.2.2.2.2.1 bt363.2.2.2.2.2.1 bt363.2.2.2.2.2.2.1 bt363.2.2.2.2.2.2.2.1 bt363.2.2.2.2.2.2.2.2).bind fun bt372 => ((impl_DropOf_1.f a1_2 a1_0 a1_1 bt372.2.1 bt372.2.2.1 bt372.2.2.2.1 bt372.2.2.2.2.1 bt372.2.2.2.2.2.1 bt372.2.2.2.2.2.2.1 bt372.2.2.2.2.2.2.2.1 bt372.2.2.2.2.2.2.2.2).bind fun bt381 => (some (bt363.1, bt372.1, bt381.1))))
def impl_DropOf.T3 : Bool × List (List Nat × List Nat) := (true, [([], []), ([], []), ([1], [1]), ([], []), ([3], [3]), ([], []), ([5], [5]), ([0, 2, 4, 6], [0, 2, 4, 6]), ([], []), ([], []), ([9], [9]), ([], []), ([11], [11]), ([], []), ([13], [13]), ([8, 10, 12, 14, 7], [8, 10, 12, 14]), ([], []), ([], []), ([17], [17]), ([], []), ([19], [19]), ([], []), ([21], [21]), ([16, 18, 20, 22, 15], [16, 18, 20, 22]), ([7, 15, 23], [7, 15, 23]), ([24, 23, 0, 1, 2, 3, 4, 5, 6, 7, 8, 9, 10, 11, 12, 13, 14, 15, 16, 17, 18, 19, 20, 21, 22, 23, 24], [24])])
def impl_DropOf.B3 : List Nat := [0, 0, 2, 0, 8, 0, 32, 127, 0, 0, 512, 0, 2048, 0, 8192, 32767, 0, 0, 131072, 0, 524288, 0, 2097152, 8388607, 16777215, 33554431]
theorem impl_DropOf.tab3 : rtab .any (opsOf Try.f151 3) = impl_DropOf.T3 := by kernel_rfl
theorem impl_DropOf.bits3 : waitsOk impl_DropOf.T3.2 impl_DropOf.B3 = true := by kernel_rfl
set_option maxHeartbeats 8000000 in
set_option maxRecDepth 100000 in
theorem impl_DropOf.calls (a0_0 : Int) (a0_1 : Cx) (a0_2 : Cx) (a0_3 : Int) (a0_4 : Cx) (a0_5 : Cx) (a0_6 : Cx) (a0_7 : Int) (a1_0 : Cx) (a1_1 : Cx) (a1_2 : Cx) (r1 : Cx) (r2 : Cx) (r3 : Cx) (w : World) (h : impl_DropOf.f a0_0 a0_1 a0_2 a0_3 a0_4 a0_5 a0_6 a0_7 a1_0 a1_1 a1_2 = some (r1, r2, r3)) :
  Calls Try.prog 151 #[.agg #[.int .i64 a0_0, .complex .f32 a0_1.re a0_1.im, .complex .f32 a0_2.re a0_2.im, .int .i64 a0_3, .complex .f32 a0_4.re a0_4.im, .complex .f32 a0_5.re a0_5.im, .complex .f32 a0_6.re a0_6.im, .int .i64 a0_7], .agg #[.complex .f32 a1_0.re a1_0.im, .complex .f32 a1_1.re a1_1.im, .complex .f32 a1_2.re a1_2.im]] w fun e w' => e = .returned (.agg #[.complex .f32 r1.re r1.im, .complex .f32 r2.re r2.im, .complex .f32 r3.re r3.im]) ∧ Below w.heap.size w w' := by
 have hu66 := Try.underlying66
 have hu39 := Try.underlying39
 have HB := Aside0.mk (Below.refl w.heap.size w)
 have H : ((impl_DropOf_1.f a1_0 a1_1 a1_2 a0_0 a0_1 a0_2 a0_3 a0_4 a0_5 a0_6 a0_7).bind fun bt363 => ((impl_DropOf_1.f a1_1 a1_2 a1_0 bt363.2.1 bt363.2.2.1 bt363.2.2.2.1 bt363.2.2.2.2.1 bt363.2.2.2.2.2.1 bt363.2.2.2.2.2.2.1 bt363.2.2.2.2.2.2.2.1 bt363.2.2.2.2.2.2.2.2).bind fun bt372 => ((impl_DropOf_1.f a1_2 a1_0 a1_1 bt372.2.1 bt372.2.2.1 bt372.2.2.2.1 bt372.2.2.2.2.1 bt372.2.2.2.2.2.1 bt372.2.2.2.2.2.2.1 bt372.2.2.2.2.2.2.2.1 bt372.2.2.2.2.2.2.2.2).bind fun bt381 => (some (bt363.1, bt372.1, bt381.1))))) = some (r1, r2, r3) := h
 clear h
 replace H := Option.bind_eq_some_iff.mp H
 obtain ⟨⟨t363, t364, t365, t366, t367, t368, t369, t370, t371⟩, A30, H⟩ := H
 try dsimp only at H
 have A3 := Aside0.mk A30
 clear A30
 replace H := Option.bind_eq_some_iff.mp H
 obtain ⟨⟨t372, t373, t374, t375, t376, t377, t378, t379, t380⟩, A40, H⟩ := H
 try dsimp only at H
 have A4 := Aside0.mk A40
 clear A40
 replace H := Option.bind_eq_some_iff.mp H
 obtain ⟨⟨t381, t382, t383, t384, t385, t386, t387, t388, t389⟩, A50, H⟩ := H
 try dsimp only at H
 have A5 := Aside0.mk A50
 clear A50
 simp only [Option.some.injEq, Prod.mk.injEq] at H
 obtain ⟨rfl, rfl, rfl⟩ := H
 go_enter Try.func151, Try.ntmps151
 try go_wp2_with (first | ((with_reducible refine gate_dst (N := 2) rfl ?_); refine box_event ?hg (N := 2) ?hd (cs := #[.int .i64 a0_0, .complex .f32 a0_1.re a0_1.im, .complex .f32 a0_2.re a0_2.im, .int .i64 a0_3, .complex .f32 a0_4.re a0_4.im, .complex .f32 a0_5.re a0_5.im, .complex .f32 a0_6.re a0_6.im, .int .i64 a0_7]) (t := 66) ?hr ?_; (case hd => rfl); (case hg => rfl); (case hr => first | (go_simp; done) | (go_simp; rfl)); intro gb359 hg w6 hbox hb; have n0_ := Aside0.mk (below_step tb hb); have n1_ := Aside0.mk (hbox); have n2_ := Aside0.mk ((by rw [hg]; exact (below_size tb) : w.heap.size ≤ gb359)); have n3_ := Aside0.mk ((by rw [hg]; exact (below_size tb) : w.heap.size ≤ gb359)); clear HB; have HB := n0_; have BK359 := n1_; have GW359 := n2_; have GE359 := n3_; clear n0_ n1_ n2_ n3_; clear hb hbox hg; have HI359 := Aside0.mk (show IsS66 w _ gb359 a0_0 a0_1 a0_2 a0_3 a0_4 a0_5 a0_6 a0_7 from ⟨BK359.out, (by first | exact GE359.out | exact GW359.out)⟩)) | ((with_reducible refine gate_dst (N := 3) rfl ?_); refine box_event ?hg (N := 3) ?hd (cs := #[.complex .f32 a1_0.re a1_0.im, .complex .f32 a1_1.re a1_1.im, .complex .f32 a1_2.re a1_2.im]) (t := 39) ?hr ?_; (case hd => rfl); (case hg => rfl); (case hr => first | (go_simp; done) | (go_simp; rfl)); intro gb360 hg w7 hbox hb; have n0_ := Aside0.mk (IsS66.below (by have hi_ := HI359.out; exact IsS66.up) hb); have n1_ := Aside0.mk (below_step (by have ge_ := IsS66.ge HI359.out; exact tb) hb); have n2_ := Aside0.mk (hbox); have n3_ := Aside0.mk ((by rw [hg]; exact (below_size (by have ge_ := IsS66.ge HI359.out; exact tb)) : w.heap.size ≤ gb360)); have n4_ := Aside0.mk ((by rw [hg]; exact (below_size (by have ge_ := IsS66.ge HI359.out; exact tb)) : w.heap.size ≤ gb360)); have n5_ := Aside0.mk ((by rw [hg]; exact Nat.ne_of_lt (IsS66.lt (show IsS66 w _ gb359 a0_0 a0_1 a0_2 a0_3 a0_4 a0_5 a0_6 a0_7 from by have hi_ := HI359.out; exact IsS66.up)) : gb359 ≠ gb360)); have n6_ := Aside0.mk ((by rw [hg]; exact Nat.ne_of_gt (IsS66.lt (show IsS66 w _ gb359 a0_0 a0_1 a0_2 a0_3 a0_4 a0_5 a0_6 a0_7 from by have hi_ := HI359.out; exact IsS66.up)) : gb360 ≠ gb359)); clear HI359; clear HB; have HI359 := n0_; have HB := n1_; have BK360 := n2_; have GW360 := n3_; have GE360 := n4_; have NB359_360 := n5_; have NB360_359 := n6_; clear n0_ n1_ n2_ n3_ n4_ n5_ n6_; clear hb hbox hg) | ((with_reducible refine gate_dst (N := 4) rfl ?_); refine box_event ?hg (N := 4) ?hd (cs := #[.complex .f32 0 0, .complex .f32 0 0, .complex .f32 0 0]) (t := 39) ?hr ?_; (case hd => rfl); (case hg => rfl); (case hr => first | (go_simp; done) | (go_simp; rfl)); intro gb361 hg w8 hbox hb; have n0_ := Aside0.mk (IsS66.below (by have hi_ := HI359.out; exact IsS66.up) hb); have n1_ := Aside0.mk (blk_below (g := gb360) (o := .cells #[.complex .f32 a1_0.re a1_0.im, .complex .f32 a1_1.re a1_1.im, .complex .f32 a1_2.re a1_2.im] 39 (0, 0)) (bu BK360.out) hb); have n2_ := Aside0.mk (below_step (by have ge_ := IsS66.ge HI359.out; exact tb) hb); have n3_ := Aside0.mk (hbox); have n4_ := Aside0.mk ((by rw [hg]; exact (below_size (by have ge_ := IsS66.ge HI359.out; exact tb)) : w.heap.size ≤ gb361)); have n5_ := Aside0.mk ((by rw [hg]; exact (below_size (by have ge_ := IsS66.ge HI359.out; exact tb)) : w.heap.size ≤ gb361)); have n6_ := Aside0.mk ((by rw [hg]; exact Nat.ne_of_lt (blk_lt (g := gb360) (o := .cells #[.complex .f32 a1_0.re a1_0.im, .complex .f32 a1_1.re a1_1.im, .complex .f32 a1_2.re a1_2.im] 39 (0, 0)) (bu BK360.out)) : gb360 ≠ gb361)); have n7_ := Aside0.mk ((by rw [hg]; exact Nat.ne_of_gt (blk_lt (g := gb360) (o := .cells #[.complex .f32 a1_0.re a1_0.im, .complex .f32 a1_1.re a1_1.im, .complex .f32 a1_2.re a1_2.im] 39 (0, 0)) (bu BK360.out)) : gb361 ≠ gb360)); have n8_ := Aside0.mk ((by rw [hg]; exact Nat.ne_of_lt (IsS66.lt (show IsS66 w _ gb359 a0_0 a0_1 a0_2 a0_3 a0_4 a0_5 a0_6 a0_7 from by have hi_ := HI359.out; exact IsS66.up)) : gb359 ≠ gb361)); have n9_ := Aside0.mk ((by rw [hg]; exact Nat.ne_of_gt (IsS66.lt (show IsS66 w _ gb359 a0_0 a0_1 a0_2 a0_3 a0_4 a0_5 a0_6 a0_7 from by have hi_ := HI359.out; exact IsS66.up)) : gb361 ≠ gb359)); clear HI359; clear BK360; clear HB; have HI359 := n0_; have BK360 := n1_; have HB := n2_; have BK361 := n3_; have GW361 := n4_; have GE361 := n5_; have NB360_361 := n6_; have NB361_360 := n7_; have NB359_361 := n8_; have NB361_359 := n9_; clear n0_ n1_ n2_ n3_ n4_ n5_ n6_ n7_ n8_ n9_; clear hb hbox hg; have hnb9 := NB360_361.out; have hnc9 := NB361_360.out; have hnb10 := NB360_359.out; have hnc10 := NB359_360.out; have hcz11_0 : w8.cell? ⟨gb360, 0, none⟩ = some (.complex .f32 a1_0.re a1_0.im) := (blk_cell BK360.out 0).trans rfl; have hcz11_1 : w8.cell? ⟨gb360, 1, none⟩ = some (.complex .f32 a1_1.re a1_1.im) := (blk_cell BK360.out 1).trans rfl; have hcz11_2 : w8.cell? ⟨gb360, 2, none⟩ = some (.complex .f32 a1_2.re a1_2.im) := (blk_cell BK360.out 2).trans rfl; have hfz11_0 := blk_frozen BK360.out 0; have hfz11_1 := blk_frozen BK360.out 1; have hfz11_2 := blk_frozen BK360.out 2) | ((with_reducible refine gate_dst (N := 6) rfl ?_); refine box_event ?hg (N := 6) ?hd (cs := #[.complex .f32 0 0, .complex .f32 0 0, .complex .f32 0 0]) (t := 39) ?hr ?_; (case hd => rfl); (case hg => rfl); (case hr => first | (go_simp; done) | (go_simp; rfl)); intro gb362 hg w12 hbox hb; have n0_ := Aside0.mk (IsS66.below (by have hi_ := HI359.out; exact IsS66.up) hb); have n1_ := Aside0.mk (blk_below (g := gb360) (o := .cells #[.complex .f32 a1_0.re a1_0.im, .complex .f32 a1_1.re a1_1.im, .complex .f32 a1_2.re a1_2.im] 39 (0, 0)) (bu BK360.out) hb); have n2_ := Aside0.mk (blk_below (g := gb361) (o := .cells #[.complex .f32 0 0, .complex .f32 0 0, .complex .f32 0 0] 39 (0, 0)) (bu BK361.out) hb); have n3_ := Aside0.mk (below_step (by have ge_ := IsS66.ge HI359.out; exact tb) hb); have n4_ := Aside0.mk (hbox); have n5_ := Aside0.mk ((by rw [hg]; exact (below_size (by have ge_ := IsS66.ge HI359.out; exact tb)) : w.heap.size ≤ gb362)); have n6_ := Aside0.mk ((by rw [hg]; exact (below_size (by have ge_ := IsS66.ge HI359.out; exact tb)) : w.heap.size ≤ gb362)); have n7_ := Aside0.mk ((by rw [hg]; exact Nat.ne_of_lt (blk_lt (g := gb360) (o := .cells #[.complex .f32 a1_0.re a1_0.im, .complex .f32 a1_1.re a1_1.im, .complex .f32 a1_2.re a1_2.im] 39 (0, 0)) (bu BK360.out)) : gb360 ≠ gb362)); have n8_ := Aside0.mk ((by rw [hg]; exact Nat.ne_of_gt (blk_lt (g := gb360) (o := .cells #[.complex .f32 a1_0.re a1_0.im, .complex .f32 a1_1.re a1_1.im, .complex .f32 a1_2.re a1_2.im] 39 (0, 0)) (bu BK360.out)) : gb362 ≠ gb360)); have n9_ := Aside0.mk ((by rw [hg]; exact Nat.ne_of_lt (blk_lt (g := gb361) (o := .cells #[.complex .f32 0 0, .complex .f32 0 0, .complex .f32 0 0] 39 (0, 0)) (bu BK361.out)) : gb361 ≠ gb362)); have n10_ := Aside0.mk ((by rw [hg]; exact Nat.ne_of_gt (blk_lt (g := gb361) (o := .cells #[.complex .f32 0 0, .complex .f32 0 0, .complex .f32 0 0] 39 (0, 0)) (bu BK361.out)) : gb362 ≠ gb361)); have n11_ := Aside0.mk ((by rw [hg]; exact Nat.ne_of_lt (IsS66.lt (show IsS66 w _ gb359 a0_0 a0_1 a0_2 a0_3 a0_4 a0_5 a0_6 a0_7 from by have hi_ := HI359.out; exact IsS66.up)) : gb359 ≠ gb362)); have n12_ := Aside0.mk ((by rw [hg]; exact Nat.ne_of_gt (IsS66.lt (show IsS66 w _ gb359 a0_0 a0_1 a0_2 a0_3 a0_4 a0_5 a0_6 a0_7 from by have hi_ := HI359.out; exact IsS66.up)) : gb362 ≠ gb359)); clear HI359; clear BK360; clear BK361; clear HB; have HI359 := n0_; have BK360 := n1_; have BK361 := n2_; have HB := n3_; have BK362 := n4_; have GW362 := n5_; have GE362 := n6_; have NB360_362 := n7_; have NB362_360 := n8_; have NB361_362 := n9_; have NB362_361 := n10_; have NB359_362 := n11_; have NB362_359 := n12_; clear n0_ n1_ n2_ n3_ n4_ n5_ n6_ n7_ n8_ n9_ n10_ n11_ n12_; clear hb hbox hg; have hnb13 := NB362_360.out; have hnc13 := NB360_362.out; have hnb14 := NB362_361.out; have hnc14 := NB361_362.out; have hnb15 := NB362_359.out; have hnc15 := NB359_362.out; have hcz16_0 : w12.cell? ⟨gb362, 0, none⟩ = some (.complex .f32 0 0) := (blk_cell BK362.out 0).trans rfl; have hcz16_1 : w12.cell? ⟨gb362, 1, none⟩ = some (.complex .f32 0 0) := (blk_cell BK362.out 1).trans rfl; have hcz16_2 : w12.cell? ⟨gb362, 2, none⟩ = some (.complex .f32 0 0) := (blk_cell BK362.out 2).trans rfl; have hfz16_0 := blk_frozen BK362.out 0; have hfz16_1 := blk_frozen BK362.out 1; have hfz16_2 := blk_frozen BK362.out 2))
 have n0_ : Aside0 ((((w12.setCell ⟨gb362, 0, none⟩ (.complex .f32 a1_0.re a1_0.im)).setCell ⟨gb362, 1, none⟩ (.complex .f32 a1_1.re a1_1.im)).setCell ⟨gb362, 2, none⟩ (.complex .f32 a1_2.re a1_2.im)).heap[gb360]? = some (.cells #[.complex .f32 a1_0.re a1_0.im, .complex .f32 a1_1.re a1_1.im, .complex .f32 a1_2.re a1_2.im] 39 (0, 0))) := ⟨by refine bv ?_; exact BK360.out⟩
 have n1_ : Aside0 ((((w12.setCell ⟨gb362, 0, none⟩ (.complex .f32 a1_0.re a1_0.im)).setCell ⟨gb362, 1, none⟩ (.complex .f32 a1_1.re a1_1.im)).setCell ⟨gb362, 2, none⟩ (.complex .f32 a1_2.re a1_2.im)).heap[gb361]? = some (.cells #[.complex .f32 0 0, .complex .f32 0 0, .complex .f32 0 0] 39 (0, 0))) := ⟨by refine bv ?_; exact BK361.out⟩
 have n2_ : Aside0 ((((w12.setCell ⟨gb362, 0, none⟩ (.complex .f32 a1_0.re a1_0.im)).setCell ⟨gb362, 1, none⟩ (.complex .f32 a1_1.re a1_1.im)).setCell ⟨gb362, 2, none⟩ (.complex .f32 a1_2.re a1_2.im)).heap[gb362]? = some (.cells #[.complex .f32 a1_0.re a1_0.im, .complex .f32 a1_1.re a1_1.im, .complex .f32 a1_2.re a1_2.im] 39 (0, 0))) := ⟨by refine bu ?_; refine blk_put (cs := #[.complex .f32 a1_0.re a1_0.im, .complex .f32 a1_1.re a1_1.im, .complex .f32 0 0]) ?_ 2 _ rfl; refine bu ?_; refine blk_put (cs := #[.complex .f32 a1_0.re a1_0.im, .complex .f32 0 0, .complex .f32 0 0]) ?_ 1 _ rfl; refine bu ?_; refine blk_put (cs := #[.complex .f32 0 0, .complex .f32 0 0, .complex .f32 0 0]) ?_ 0 _ rfl; refine bu ?_; exact BK362.out⟩
 have n3_ : Aside0 (IsS66 w (((w12.setCell ⟨gb362, 0, none⟩ (.complex .f32 a1_0.re a1_0.im)).setCell ⟨gb362, 1, none⟩ (.complex .f32 a1_1.re a1_1.im)).setCell ⟨gb362, 2, none⟩ (.complex .f32 a1_2.re a1_2.im)) gb359 a0_0 a0_1 a0_2 a0_3 a0_4 a0_5 a0_6 a0_7) := ⟨by have hi_ := HI359.out; exact IsS66.up⟩
 have n4_ : Aside0 (Below w.heap.size w (((w12.setCell ⟨gb362, 0, none⟩ (.complex .f32 a1_0.re a1_0.im)).setCell ⟨gb362, 1, none⟩ (.complex .f32 a1_1.re a1_1.im)).setCell ⟨gb362, 2, none⟩ (.complex .f32 a1_2.re a1_2.im))) := ⟨by have ge_ := IsS66.ge HI359.out; exact tb⟩
 (try clear BK360)
 (try clear BK361)
 (try clear BK362)
 (try clear HI359)
 (try clear HB)
 generalize (((w12.setCell ⟨gb362, 0, none⟩ (.complex .f32 a1_0.re a1_0.im)).setCell ⟨gb362, 1, none⟩ (.complex .f32 a1_1.re a1_1.im)).setCell ⟨gb362, 2, none⟩ (.complex .f32 a1_2.re a1_2.im)) = w17 at n0_ n1_ n2_ n3_ n4_ ⊢
 have BK360 := n0_
 have BK361 := n1_
 have BK362 := n2_
 have HI359 := n3_
 have HB := n4_
 clear n0_ n1_ n2_ n3_ n4_
 have n0_ := Aside0.mk (blk_drew BK360.out)
 have n1_ := Aside0.mk (blk_drew BK361.out)
 have n2_ := Aside0.mk (blk_drew BK362.out)
 have n3_ := Aside0.mk (IsS66.drew HI359.out)
 have n4_ := Aside0.mk (below_drew1 HB.out)
 clear BK360
 clear BK361
 clear BK362
 clear HI359
 clear HB
 have BK360 := n0_
 have BK361 := n1_
 have BK362 := n2_
 have HI359 := n3_
 have HB := n4_
 clear n0_ n1_ n2_ n3_ n4_
 refine start_ (n := 26) (S := fun w' => w'.cell? ⟨gb362, 0, none⟩ = some (.complex .f32 a1_0.re a1_0.im) ∧ w'.cell? ⟨gb362, 1, none⟩ = some (.complex .f32 a1_1.re a1_1.im) ∧ w'.cell? ⟨gb362, 2, none⟩ = some (.complex .f32 a1_2.re a1_2.im)) (ds := []) #[false, false, false, false, false, false, false, false, false, false, false, false, false, false, false, false, false, false, false, false, false, false, false, false, false, false] (by kernel_rfl) rfl rfl ⟨(blk_cell BK362.out 0).trans rfl, (blk_cell BK362.out 1).trans rfl, (blk_cell BK362.out 2).trans rfl⟩ (fun hHeld => ?_); refine with_tabW impl_DropOf.tab3 impl_DropOf.bits3 (fun HT_ HW_ => ?_)
 generalize w17.drew = w18 at BK360 BK361 BK362 HI359 HB hHeld ⊢
 refine pure_ (i := 0) (N := some 9) (v := ?_) (a' := ?_) #[true, false, false, false, false, false, false, false, false, false, false, false, false, false, false, false, false, false, false, false, false, false, false, false, false, false] rfl rfl (any_of HT_.out (by kernel_rfl)) (fun _ _ _ h => h) (Or.inl ⟨by rfl, ?_⟩) ?_ ?_
 rotate_left
 ·intro w'
  go_simp
  with_reducible rfl
 rotate_left
 ·refine ps_ ?_
  rfl
 refine pure_ (i := 1) (N := some 10) (v := ?_) (a' := ?_) #[true, true, false, false, false, false, false, false, false, false, false, false, false, false, false, false, false, false, false, false, false, false, false, false, false, false] rfl rfl (any_of HT_.out (by kernel_rfl)) (fun _ _ _ h => h) (Or.inl ⟨by rfl, ?_⟩) ?_ ?_
 rotate_left
 ·intro w'
  go_simp
  with_reducible rfl
 rotate_left
 ·refine ps_ ?_
  rfl
 refine pure_ (i := 3) (N := some 12) (v := ?_) (a' := ?_) #[true, true, false, true, false, false, false, false, false, false, false, false, false, false, false, false, false, false, false, false, false, false, false, false, false, false] rfl rfl (any_of HT_.out (by kernel_rfl)) (fun _ _ _ h => h) (Or.inl ⟨by rfl, ?_⟩) ?_ ?_
 rotate_left
 ·intro w'
  go_simp
  with_reducible rfl
 rotate_left
 ·refine ps_ ?_
  rfl
 refine pure_ (i := 5) (N := some 14) (v := ?_) (a' := ?_) #[true, true, false, true, false, true, false, false, false, false, false, false, false, false, false, false, false, false, false, false, false, false, false, false, false, false] rfl rfl (any_of HT_.out (by kernel_rfl)) (fun _ _ _ h => h) (Or.inl ⟨by rfl, ?_⟩) ?_ ?_
 rotate_left
 ·intro w'
  go_simp
  with_reducible rfl
 rotate_left
 ·refine ps_ ?_
  rfl
 refine pure_ (i := 8) (N := some 17) (v := ?_) (a' := ?_) #[true, true, false, true, false, true, false, false, true, false, false, false, false, false, false, false, false, false, false, false, false, false, false, false, false, false] rfl rfl (any_of HT_.out (by kernel_rfl)) (fun _ _ _ h => h) (Or.inl ⟨by rfl, ?_⟩) ?_ ?_
 rotate_left
 ·intro w'
  go_simp
  with_reducible rfl
 rotate_left
 ·refine ps_ ?_
  rfl
 refine pure_ (i := 9) (N := some 18) (v := ?_) (a' := ?_) #[true, true, false, true, false, true, false, false, true, true, false, false, false, false, false, false, false, false, false, false, false, false, false, false, false, false] rfl rfl (any_of HT_.out (by kernel_rfl)) (fun _ _ _ h => h) (Or.inl ⟨by rfl, ?_⟩) ?_ ?_
 rotate_left
 ·intro w'
  go_simp
  with_reducible rfl
 rotate_left
 ·refine ps_ ?_
  rfl
 refine pure_ (i := 11) (N := some 20) (v := ?_) (a' := ?_) #[true, true, false, true, false, true, false, false, true, true, false, true, false, false, false, false, false, false, false, false, false, false, false, false, false, false] rfl rfl (any_of HT_.out (by kernel_rfl)) (fun _ _ _ h => h) (Or.inl ⟨by rfl, ?_⟩) ?_ ?_
 rotate_left
 ·intro w'
  go_simp
  with_reducible rfl
 rotate_left
 ·refine ps_ ?_
  rfl
 refine pure_ (i := 13) (N := some 22) (v := ?_) (a' := ?_) #[true, true, false, true, false, true, false, false, true, true, false, true, false, true, false, false, false, false, false, false, false, false, false, false, false, false] rfl rfl (any_of HT_.out (by kernel_rfl)) (fun _ _ _ h => h) (Or.inl ⟨by rfl, ?_⟩) ?_ ?_
 rotate_left
 ·intro w'
  go_simp
  with_reducible rfl
 rotate_left
 ·refine ps_ ?_
  rfl
 refine pure_ (i := 16) (N := some 25) (v := ?_) (a' := ?_) #[true, true, false, true, false, true, false, false, true, true, false, true, false, true, false, false, true, false, false, false, false, false, false, false, false, false] rfl rfl (any_of HT_.out (by kernel_rfl)) (fun _ _ _ h => h) (Or.inl ⟨by rfl, ?_⟩) ?_ ?_
 rotate_left
 ·intro w'
  go_simp
  with_reducible rfl
 rotate_left
 ·refine ps_ ?_
  rfl
 refine pure_ (i := 17) (N := some 26) (v := ?_) (a' := ?_) #[true, true, false, true, false, true, false, false, true, true, false, true, false, true, false, false, true, true, false, false, false, false, false, false, false, false] rfl rfl (any_of HT_.out (by kernel_rfl)) (fun _ _ _ h => h) (Or.inl ⟨by rfl, ?_⟩) ?_ ?_
 rotate_left
 ·intro w'
  go_simp
  with_reducible rfl
 rotate_left
 ·refine ps_ ?_
  rfl
 refine pure_ (i := 19) (N := some 28) (v := ?_) (a' := ?_) #[true, true, false, true, false, true, false, false, true, true, false, true, false, true, false, false, true, true, false, true, false, false, false, false, false, false] rfl rfl (any_of HT_.out (by kernel_rfl)) (fun _ _ _ h => h) (Or.inl ⟨by rfl, ?_⟩) ?_ ?_
 rotate_left
 ·intro w'
  go_simp
  with_reducible rfl
 rotate_left
 ·refine ps_ ?_
  rfl
 refine pure_ (i := 21) (N := some 30) (v := ?_) (a' := ?_) #[true, true, false, true, false, true, false, false, true, true, false, true, false, true, false, false, true, true, false, true, false, true, false, false, false, false] rfl rfl (any_of HT_.out (by kernel_rfl)) (fun _ _ _ h => h) (Or.inl ⟨by rfl, ?_⟩) ?_ ?_
 rotate_left
 ·intro w'
  go_simp
  with_reducible rfl
 rotate_left
 ·refine ps_ ?_
  rfl
 refine take_ (i := 2) (N := some 11) (v := ?_) (a' := ?_) #[true, true, true, true, false, true, false, false, true, true, false, true, false, true, false, false, true, true, false, true, false, true, false, false, false, false] rfl rfl (take_ofW HT_.out HW_.out (by kernel_rfl)) (fun _ _ _ h => h) (Or.inl ⟨by rfl, ?_⟩) hHeld ?_ ?_
 rotate_left
 ·rintro w' ⟨s0, s1, s2⟩
  go_simp
  with_reducible rfl
 rotate_left
 ·refine ps_ ?_
  rfl
 refine take_ (i := 4) (N := some 13) (v := ?_) (a' := ?_) #[true, true, true, true, true, true, false, false, true, true, false, true, false, true, false, false, true, true, false, true, false, true, false, false, false, false] rfl rfl (take_ofW HT_.out HW_.out (by kernel_rfl)) (fun _ _ _ h => h) (Or.inl ⟨by rfl, ?_⟩) hHeld ?_ ?_
 rotate_left
 ·rintro w' ⟨s0, s1, s2⟩
  go_simp
  with_reducible rfl
 rotate_left
 ·refine ps_ ?_
  rfl
 refine take_ (i := 6) (N := some 15) (v := ?_) (a' := ?_) #[true, true, true, true, true, true, true, false, true, true, false, true, false, true, false, false, true, true, false, true, false, true, false, false, false, false] rfl rfl (take_ofW HT_.out HW_.out (by kernel_rfl)) (fun _ _ _ h => h) (Or.inl ⟨by rfl, ?_⟩) hHeld ?_ ?_
 rotate_left
 ·rintro w' ⟨s0, s1, s2⟩
  go_simp
  with_reducible rfl
 rotate_left
 ·refine ps_ ?_
  rfl
 refine take_ (i := 10) (N := some 19) (v := ?_) (a' := ?_) #[true, true, true, true, true, true, true, false, true, true, true, true, false, true, false, false, true, true, false, true, false, true, false, false, false, false] rfl rfl (take_ofW HT_.out HW_.out (by kernel_rfl)) (fun _ _ _ h => h) (Or.inl ⟨by rfl, ?_⟩) hHeld ?_ ?_
 rotate_left
 ·rintro w' ⟨s0, s1, s2⟩
  go_simp
  with_reducible rfl
 rotate_left
 ·refine ps_ ?_
  rfl
 refine take_ (i := 12) (N := some 21) (v := ?_) (a' := ?_) #[true, true, true, true, true, true, true, false, true, true, true, true, true, true, false, false, true, true, false, true, false, true, false, false, false, false] rfl rfl (take_ofW HT_.out HW_.out (by kernel_rfl)) (fun _ _ _ h => h) (Or.inl ⟨by rfl, ?_⟩) hHeld ?_ ?_
 rotate_left
 ·rintro w' ⟨s0, s1, s2⟩
  go_simp
  with_reducible rfl
 rotate_left
 ·refine ps_ ?_
  rfl
 refine take_ (i := 14) (N := some 23) (v := ?_) (a' := ?_) #[true, true, true, true, true, true, true, false, true, true, true, true, true, true, true, false, true, true, false, true, false, true, false, false, false, false] rfl rfl (take_ofW HT_.out HW_.out (by kernel_rfl)) (fun _ _ _ h => h) (Or.inl ⟨by rfl, ?_⟩) hHeld ?_ ?_
 rotate_left
 ·rintro w' ⟨s0, s1, s2⟩
  go_simp
  with_reducible rfl
 rotate_left
 ·refine ps_ ?_
  rfl
 refine take_ (i := 18) (N := some 27) (v := ?_) (a' := ?_) #[true, true, true, true, true, true, true, false, true, true, true, true, true, true, true, false, true, true, true, true, false, true, false, false, false, false] rfl rfl (take_ofW HT_.out HW_.out (by kernel_rfl)) (fun _ _ _ h => h) (Or.inl ⟨by rfl, ?_⟩) hHeld ?_ ?_
 rotate_left
 ·rintro w' ⟨s0, s1, s2⟩
  go_simp
  with_reducible rfl
 rotate_left
 ·refine ps_ ?_
  rfl
 refine take_ (i := 20) (N := some 29) (v := ?_) (a' := ?_) #[true, true, true, true, true, true, true, false, true, true, true, true, true, true, true, false, true, true, true, true, true, true, false, false, false, false] rfl rfl (take_ofW HT_.out HW_.out (by kernel_rfl)) (fun _ _ _ h => h) (Or.inl ⟨by rfl, ?_⟩) hHeld ?_ ?_
 rotate_left
 ·rintro w' ⟨s0, s1, s2⟩
  go_simp
  with_reducible rfl
 rotate_left
 ·refine ps_ ?_
  rfl
 refine take_ (i := 22) (N := some 31) (v := ?_) (a' := ?_) #[true, true, true, true, true, true, true, false, true, true, true, true, true, true, true, false, true, true, true, true, true, true, true, false, false, false] rfl rfl (take_ofW HT_.out HW_.out (by kernel_rfl)) (fun _ _ _ h => h) (Or.inl ⟨by rfl, ?_⟩) hHeld ?_ ?_
 rotate_left
 ·rintro w' ⟨s0, s1, s2⟩
  go_simp
  with_reducible rfl
 rotate_left
 ·refine ps_ ?_
  rfl
 refine one_ (i := 7) (N := some 16) #[true, true, true, true, true, true, true, true, true, true, true, true, true, true, true, false, true, true, true, true, true, true, true, false, false, false] rfl rfl (one_of HT_.out (by kernel_rfl)) (by decide) (fun K hK => ?_)
 refine goesD_ Try.func170 (by kernel_rfl) rfl #[.complex .f32 a1_0.re a1_0.im, .complex .f32 a1_1.re a1_1.im, .complex .f32 a1_2.re a1_2.im, .pointer (some ⟨gb359, 0, none⟩)] (by rfl) rfl rfl (by rfl) mp_ ?_
 with_reducible refine (impl_DropOf_1.calls a1_0 a1_1 a1_2 gb359 a0_0 a0_1 a0_2 a0_3 a0_4 a0_5 a0_6 a0_7 t363 t364 t365 t366 t367 t368 t369 t370 t371 w _ ?side1 ?side2 A3.out).mono ?_
 (case side1 => have hi_ := HI359.out; exact IsS66.up)
 (case side2 => have ge_ := IsS66.ge HI359.out; exact tb)
 rintro e w19 ⟨rfl, hi, hb, hk⟩
 refine ⟨_, rfl, ?_⟩
 have n0_ := Aside0.mk (KeepBut.blk hk (g' := gb360) (o := .cells #[.complex .f32 a1_0.re a1_0.im, .complex .f32 a1_1.re a1_1.im, .complex .f32 a1_2.re a1_2.im] 39 (0, 0)) (bu BK360.out) NB360_359.out (by simp))
 have n1_ := Aside0.mk (KeepBut.blk hk (g' := gb361) (o := .cells #[.complex .f32 0 0, .complex .f32 0 0, .complex .f32 0 0] 39 (0, 0)) (bu BK361.out) NB361_359.out (by simp))
 have n2_ := Aside0.mk (KeepBut.blk hk (g' := gb362) (o := .cells #[.complex .f32 a1_0.re a1_0.im, .complex .f32 a1_1.re a1_1.im, .complex .f32 a1_2.re a1_2.im] 39 (0, 0)) (bu BK362.out) NB362_359.out (by simp))
 have n3_ := Aside0.mk (hb)
 have n4_ := Aside0.mk (hi)
 clear BK360
 clear BK361
 clear BK362
 clear HB
 clear HI359
 have BK360 := n0_
 have BK361 := n1_
 have BK362 := n2_
 have HB := n3_
 have HI359 := n4_
 clear n0_ n1_ n2_ n3_ n4_
 (try clear hb)
 (try clear hb2)
 (try clear hk)
 (try clear hi)
 refine hK.out _ _ ⟨(blk_cell BK362.out 0).trans rfl, (blk_cell BK362.out 1).trans rfl, (blk_cell BK362.out 2).trans rfl⟩ (fun hHeld => ?_)
 clear hK K
 refine norm_ (a' := ?_) ?_ ?_
 rotate_left
 ·show Act.put _ (some 16) _ = _
  refine ps_ ?_
  rfl
 refine one_ (i := 15) (N := some 24) #[true, true, true, true, true, true, true, true, true, true, true, true, true, true, true, true, true, true, true, true, true, true, true, false, false, false] rfl rfl (one_of HT_.out (by kernel_rfl)) (by decide) (fun K hK => ?_)
 refine goesD_ Try.func170 (by kernel_rfl) rfl #[.complex .f32 a1_1.re a1_1.im, .complex .f32 a1_2.re a1_2.im, .complex .f32 a1_0.re a1_0.im, .pointer (some ⟨gb359, 0, none⟩)] (by rfl) rfl rfl (by rfl) mp_ ?_
 with_reducible refine (impl_DropOf_1.calls a1_1 a1_2 a1_0 gb359 t364 t365 t366 t367 t368 t369 t370 t371 t372 t373 t374 t375 t376 t377 t378 t379 t380 w _ ?side1 ?side2 A4.out).mono ?_
 (case side1 => have hi_ := HI359.out; exact IsS66.up)
 (case side2 => have ge_ := IsS66.ge HI359.out; exact tb)
 rintro e w20 ⟨rfl, hi, hb, hk⟩
 refine ⟨_, rfl, ?_⟩
 have n0_ := Aside0.mk (KeepBut.blk hk (g' := gb360) (o := .cells #[.complex .f32 a1_0.re a1_0.im, .complex .f32 a1_1.re a1_1.im, .complex .f32 a1_2.re a1_2.im] 39 (0, 0)) (bu BK360.out) NB360_359.out (by simp))
 have n1_ := Aside0.mk (KeepBut.blk hk (g' := gb361) (o := .cells #[.complex .f32 0 0, .complex .f32 0 0, .complex .f32 0 0] 39 (0, 0)) (bu BK361.out) NB361_359.out (by simp))
 have n2_ := Aside0.mk (KeepBut.blk hk (g' := gb362) (o := .cells #[.complex .f32 a1_0.re a1_0.im, .complex .f32 a1_1.re a1_1.im, .complex .f32 a1_2.re a1_2.im] 39 (0, 0)) (bu BK362.out) NB362_359.out (by simp))
 have n3_ := Aside0.mk (hb)
 have n4_ := Aside0.mk (hi)
 clear BK360
 clear BK361
 clear BK362
 clear HB
 clear HI359
 have BK360 := n0_
 have BK361 := n1_
 have BK362 := n2_
 have HB := n3_
 have HI359 := n4_
 clear n0_ n1_ n2_ n3_ n4_
 (try clear hb)
 (try clear hb2)
 (try clear hk)
 (try clear hi)
 refine hK.out _ _ ⟨(blk_cell BK362.out 0).trans rfl, (blk_cell BK362.out 1).trans rfl, (blk_cell BK362.out 2).trans rfl⟩ (fun hHeld => ?_)
 clear hK K
 refine norm_ (a' := ?_) ?_ ?_
 rotate_left
 ·show Act.put _ (some 24) _ = _
  refine ps_ ?_
  rfl
 refine one_ (i := 23) (N := some 32) #[true, true, true, true, true, true, true, true, true, true, true, true, true, true, true, true, true, true, true, true, true, true, true, true, false, false] rfl rfl (one_of HT_.out (by kernel_rfl)) (by decide) (fun K hK => ?_)
 refine goesD_ Try.func170 (by kernel_rfl) rfl #[.complex .f32 a1_2.re a1_2.im, .complex .f32 a1_0.re a1_0.im, .complex .f32 a1_1.re a1_1.im, .pointer (some ⟨gb359, 0, none⟩)] (by rfl) rfl rfl (by rfl) mp_ ?_
 with_reducible refine (impl_DropOf_1.calls a1_2 a1_0 a1_1 gb359 t373 t374 t375 t376 t377 t378 t379 t380 t381 t382 t383 t384 t385 t386 t387 t388 t389 w _ ?side1 ?side2 A5.out).mono ?_
 (case side1 => have hi_ := HI359.out; exact IsS66.up)
 (case side2 => have ge_ := IsS66.ge HI359.out; exact tb)
 rintro e w21 ⟨rfl, hi, hb, hk⟩
 refine ⟨_, rfl, ?_⟩
 have n0_ := Aside0.mk (KeepBut.blk hk (g' := gb360) (o := .cells #[.complex .f32 a1_0.re a1_0.im, .complex .f32 a1_1.re a1_1.im, .complex .f32 a1_2.re a1_2.im] 39 (0, 0)) (bu BK360.out) NB360_359.out (by simp))
 have n1_ := Aside0.mk (KeepBut.blk hk (g' := gb361) (o := .cells #[.complex .f32 0 0, .complex .f32 0 0, .complex .f32 0 0] 39 (0, 0)) (bu BK361.out) NB361_359.out (by simp))
 have n2_ := Aside0.mk (KeepBut.blk hk (g' := gb362) (o := .cells #[.complex .f32 a1_0.re a1_0.im, .complex .f32 a1_1.re a1_1.im, .complex .f32 a1_2.re a1_2.im] 39 (0, 0)) (bu BK362.out) NB362_359.out (by simp))
 have n3_ := Aside0.mk (hb)
 have n4_ := Aside0.mk (hi)
 clear BK360
 clear BK361
 clear BK362
 clear HB
 clear HI359
 have BK360 := n0_
 have BK361 := n1_
 have BK362 := n2_
 have HB := n3_
 have HI359 := n4_
 clear n0_ n1_ n2_ n3_ n4_
 (try clear hb)
 (try clear hb2)
 (try clear hk)
 (try clear hi)
 refine hK.out _ _ ⟨(blk_cell BK362.out 0).trans rfl, (blk_cell BK362.out 1).trans rfl, (blk_cell BK362.out 2).trans rfl⟩ (fun hHeld => ?_)
 clear hK K
 refine norm_ (a' := ?_) ?_ ?_
 rotate_left
 ·show Act.put _ (some 32) _ = _
  refine ps_ ?_
  rfl
 refine pure_ (i := 24) (N := some 33) (v := ?_) (a' := ?_) #[true, true, true, true, true, true, true, true, true, true, true, true, true, true, true, true, true, true, true, true, true, true, true, true, true, false] rfl rfl (any_of HT_.out (by kernel_rfl)) (fun _ _ _ h => h) (Or.inl ⟨by rfl, ?_⟩) ?_ ?_
 rotate_left
 ·intro w'
  go_simp
  with_reducible rfl
 rotate_left
 ·refine ps_ ?_
  rfl
 refine one_ (i := 25) (N := none) #[true, true, true, true, true, true, true, true, true, true, true, true, true, true, true, true, true, true, true, true, true, true, true, true, true, true] rfl rfl (one_of HT_.out (by kernel_rfl)) (by decide) (fun K hK => ?_)
 have hs22 : w21.cell? ⟨gb361, 0, none⟩ = some (.complex .f32 0 0) := (blk_cell BK361.out 0).trans rfl
 have hfs22 := blk_frozen BK361.out 0
 have hns22_0 := NB360_361.out
 have hns22_2 := NB362_361.out
 have hms22_0 := NB361_360.out
 have hms22_2 := NB361_362.out
 have hs23 : w21.cell? ⟨gb361, 1, none⟩ = some (.complex .f32 0 0) := (blk_cell BK361.out 1).trans rfl
 have hfs23 := blk_frozen BK361.out 1
 have hns23_0 := NB360_361.out
 have hns23_2 := NB362_361.out
 have hms23_0 := NB361_360.out
 have hms23_2 := NB361_362.out
 have hs24 : w21.cell? ⟨gb361, 2, none⟩ = some (.complex .f32 0 0) := (blk_cell BK361.out 2).trans rfl
 have hfs24 := blk_frozen BK361.out 2
 have hns24_0 := NB360_361.out
 have hns24_2 := NB362_361.out
 have hms24_0 := NB361_360.out
 have hms24_2 := NB361_362.out
 refine skip_ (w1 := ?_) (by rfl) rfl ?_ ?_
 rotate_left
 ·go_simp
  rfl
 refine hK.out _ _ ⟨((cell_far (p := ⟨gb361, _, none⟩) NB362_361.out _).trans (((cell_far (p := ⟨gb361, _, none⟩) NB362_361.out _).trans (((cell_far (p := ⟨gb361, _, none⟩) NB362_361.out _).trans (hHeld.1)))))), ((cell_far (p := ⟨gb361, _, none⟩) NB362_361.out _).trans (((cell_far (p := ⟨gb361, _, none⟩) NB362_361.out _).trans (((cell_far (p := ⟨gb361, _, none⟩) NB362_361.out _).trans (hHeld.2.1)))))), ((cell_far (p := ⟨gb361, _, none⟩) NB362_361.out _).trans (((cell_far (p := ⟨gb361, _, none⟩) NB362_361.out _).trans (((cell_far (p := ⟨gb361, _, none⟩) NB362_361.out _).trans (hHeld.2.2))))))⟩ (fun hHeld => ?_)
 clear hK K
 refine done_ (done_of HT_.out (by kernel_rfl)) ?_
 try go_wp2
 refine bodyPost_ret (results_cell_row rfl _ _ gb361 39 #[.complex .f32 t363.re t363.im, .complex .f32 t372.re t372.im, .complex .f32 t381.re t381.im] (0, 0) _ rfl (by refine bu ?_; refine blk_put (cs := #[.complex .f32 t363.re t363.im, .complex .f32 t372.re t372.im, .complex .f32 0 0]) ?_ 2 _ rfl; refine bu ?_; refine blk_put (cs := #[.complex .f32 t363.re t363.im, .complex .f32 0 0, .complex .f32 0 0]) ?_ 1 _ rfl; refine bu ?_; refine blk_put (cs := #[.complex .f32 0 0, .complex .f32 0 0, .complex .f32 0 0]) ?_ 0 _ rfl; refine bu ?_; exact BK361.out) Try.underlying39 rfl (by kernel_rfl)) rfl ?_
 exact ⟨re_, by have ge_ := IsS66.ge HI359.out; exact tb⟩

end Go.Proofs.Ytcgpomicgbmdlaa.PFnBanks
namespace Go.Proofs.Ytcgpomicgbmdlaa.PFnBanks
open Go.RowKit Go.Proofs.YtcgpomicgbmdlaaW.PrintWords Go.Proofs.YtcgpomicgbmdlaaW.PrintLast Go.Proofs.YtcgpomicgbmdlaaW.PrintMore
attribute [local go_sem] max2_int min2_int max_two min_two max_three min_three max_four min_four   -- for this text's walks alone
set_option linter.unusedVariables false
set_option linter.unusedSimpArgs false

-- NOT PRINTED: function 132 (impl_Feeder_forth)

-- NOT PRINTED: function 81 (impl_Feeder_sweep)

-- NOT PRINTED: function 92 (impl_Feeder_sweeps)

/-! ### bits_Mul32: function 176 -/
def bits_Mul32.f (a0 : Int) (a1 : Int) : Option (Int × Int) := some (((IntKind.u64.wrap ((IntKind.u64.wrap (a0)) * (IntKind.u64.wrap (a1)))) / 4294967296) % 4294967296, (IntKind.u64.wrap ((IntKind.u64.wrap (a0)) * (IntKind.u64.wrap (a1)))) % 4294967296)
set_option maxHeartbeats 8000000 in
set_option maxRecDepth 100000 in
theorem bits_Mul32.calls (a0 : Int) (a1 : Int) (r1 : Int) (r2 : Int) (w : World) (h : bits_Mul32.f a0 a1 = some (r1, r2)) :
  Calls Try.prog 176 #[.int .u32 a0, .int .u32 a1] w fun e w' => e = .returned (.tuple #[.int .u32 r1, .int .u32 r2]) ∧ Drawn0 w w' := by
 have H : (some (((IntKind.u64.wrap ((IntKind.u64.wrap (a0)) * (IntKind.u64.wrap (a1)))) / 4294967296) % 4294967296, (IntKind.u64.wrap ((IntKind.u64.wrap (a0)) * (IntKind.u64.wrap (a1)))) % 4294967296)) = some (r1, r2) := h
 clear h
 simp only [Option.some.injEq, Prod.mk.injEq] at H
 obtain ⟨rfl, rfl⟩ := H
 go_enter Try.func176, Try.ntmps176
 go_wp2
 go_ret2
 exact ⟨rs_, dr_⟩

/-! ### bits_Mul64: function 177 -/
def bits_Mul64.f (a0 : Int) (a1 : Int) : Option (Int × Int) := some (IntKind.u64.wrap ((IntKind.u64.wrap ((IntKind.u64.wrap ((a0 / 4294967296) * (a1 / 4294967296))) + ((IntKind.u64.wrap ((IntKind.u64.wrap ((a0 / 4294967296) * (Go.bits .and .u64 a1 4294967295))) + ((IntKind.u64.wrap ((Go.bits .and .u64 a0 4294967295) * (Go.bits .and .u64 a1 4294967295))) / 4294967296))) / 4294967296))) + ((IntKind.u64.wrap ((Go.bits .and .u64 (IntKind.u64.wrap ((IntKind.u64.wrap ((a0 / 4294967296) * (Go.bits .and .u64 a1 4294967295))) + ((IntKind.u64.wrap ((Go.bits .and .u64 a0 4294967295) * (Go.bits .and .u64 a1 4294967295))) / 4294967296))) 4294967295) + (IntKind.u64.wrap ((Go.bits .and .u64 a0 4294967295) * (a1 / 4294967296))))) / 4294967296)), IntKind.u64.wrap (a0 * a1))
set_option maxHeartbeats 8000000 in
set_option maxRecDepth 100000 in
theorem bits_Mul64.calls (a0 : Int) (a1 : Int) (r1 : Int) (r2 : Int) (w : World) (h : bits_Mul64.f a0 a1 = some (r1, r2)) :
  Calls Try.prog 177 #[.int .u64 a0, .int .u64 a1] w fun e w' => e = .returned (.tuple #[.int .u64 r1, .int .u64 r2]) ∧ Drawn0 w w' := by
 have H : (some (IntKind.u64.wrap ((IntKind.u64.wrap ((IntKind.u64.wrap ((a0 / 4294967296) * (a1 / 4294967296))) + ((IntKind.u64.wrap ((IntKind.u64.wrap ((a0 / 4294967296) * (Go.bits .and .u64 a1 4294967295))) + ((IntKind.u64.wrap ((Go.bits .and .u64 a0 4294967295) * (Go.bits .and .u64 a1 4294967295))) / 4294967296))) / 4294967296))) + ((IntKind.u64.wrap ((Go.bits .and .u64 (IntKind.u64.wrap ((IntKind.u64.wrap ((a0 / 4294967296) * (Go.bits .and .u64 a1 4294967295))) + ((IntKind.u64.wrap ((Go.bits .and .u64 a0 4294967295) * (Go.bits .and .u64 a1 4294967295))) / 4294967296))) 4294967295) + (IntKind.u64.wrap ((Go.bits .and .u64 a0 4294967295) * (a1 / 4294967296))))) / 4294967296)), IntKind.u64.wrap (a0 * a1))) = some (r1, r2) := h
 clear h
 simp only [Option.some.injEq, Prod.mk.injEq] at H
 obtain ⟨rfl, rfl⟩ := H
 go_enter Try.func177, Try.ntmps177
 go_wp2
 go_ret2
 exact ⟨rs_, dr_⟩

/-! ### bits_Mul: function 160 -/
def bits_Mul.f (a0 : Int) (a1 : Int) : Option (Int × Int) := (bits_Mul64.f a0 a1).bind fun bt390 => (some (bt390.1, bt390.2))
set_option maxHeartbeats 8000000 in
set_option maxRecDepth 100000 in
theorem bits_Mul.calls (a0 : Int) (a1 : Int) (r1 : Int) (r2 : Int) (w : World) (h : bits_Mul.f a0 a1 = some (r1, r2)) :
  Calls Try.prog 160 #[.int .u64 a0, .int .u64 a1] w fun e w' => e = .returned (.tuple #[.int .u64 r1, .int .u64 r2]) ∧ Drawn0 w w' := by
 have H : ((bits_Mul64.f a0 a1).bind fun bt390 => (some (bt390.1, bt390.2))) = some (r1, r2) := h
 clear h
 replace H := Option.bind_eq_some_iff.mp H
 obtain ⟨⟨t390, t391⟩, A30, H⟩ := H
 try dsimp only at H
 have A3 := Aside0.mk A30
 clear A30
 simp only [Option.some.injEq, Prod.mk.injEq] at H
 obtain ⟨rfl, rfl⟩ := H
 go_enter Try.func160, Try.ntmps160
 go_wp2_with (first | ((with_reducible refine gate_callee (f := 177) rfl ?_); refine gx_ (some 25) Try.func177 #[.int .u64 a0, .int .u64 a1] ?_; (with_reducible refine (bits_Mul64.calls a0 a1 t390 t391 _ A3.out).mono ?_); rintro e w' ⟨rfl, ⟨nd, rfl⟩⟩; refine ⟨_, rfl, ?_⟩))
 go_ret2
 exact ⟨rs_, dr_⟩

end Go.Proofs.Ytcgpomicgbmdlaa.PFnBanks
