-- Words and walks of the print, as far as this claim uses them (laid by wip/mkclaim.py of this session). Lean checks it.
import Derived.Test.YtcgpomicgbmdlaaFl
import Derived.Test.YtcgpomicgbmdlaaPFnBanksm0
import Derived.Test.YtcgpomicgbmdlaaPFnBanksm1
import Derived.Test.YtcgpomicgbmdlaaPFnBanksm2
namespace Go.Proofs.Ytcgpomicgbmdlaa.PFnBanks
open Go.RowKit Go.Proofs.YtcgpomicgbmdlaaW.PrintWords Go.Proofs.YtcgpomicgbmdlaaW.PrintLast Go.Proofs.YtcgpomicgbmdlaaW.PrintMore
attribute [local go_sem] max2_int min2_int max_two min_two max_three min_three max_four min_four   -- for this text's walks alone
set_option linter.unusedVariables false
set_option linter.unusedSimpArgs false

/-! ### impl_AddBank: function 33 -/
def impl_AddBank.f (k : Nat) (a0_0 : Cx) (a0_1 : Cx) (a0_2 : Cx) (l0_3 : List (S66)) (a1 : Int) (a2 : Nat) : Option (Cx × Cx × Cx × (List (S66)) × Bool) := (impl_Feeder_has.f k a0_0 a0_1 a0_2 l0_3 a1).bind fun bt219 => (if bt219.1 = true then ((impl_IsFinite.f a2).bind fun t223 => (if t223 = true then (if (feq .f32 a2 0) = true then (some ((⟨0, 0⟩ : Cx), (⟨0, 0⟩ : Cx), (⟨0, 0⟩ : Cx), ([] : List (S66)), false)) else ((impl_cloneFeeder.f bt219.2.1 bt219.2.2.1 bt219.2.2.2 l0_3).bind fun bt226 => ((impl_QuotientOf.f (⟨1065353216, 0⟩ : Cx) (⟨0, a2⟩ : Cx)).bind fun t232 => (if bt226.2.2.2.length < 2199023255552 then ((impl_told.f k bt226.1 bt226.2.1 bt226.2.2.1 (bt226.2.2.2 ++ [(⟨a1, (⟨0, 0⟩ : Cx), (⟨0, 0⟩ : Cx), 2, (⟨t232, t232, t232⟩ : S39), 0⟩ : S66)])).bind fun bt237 => (some (bt237.1, bt237.2.1, bt237.2.2.1, bt237.2.2.2.1, bt237.2.2.2.2))) else (none))))) else (some ((⟨0, 0⟩ : Cx), (⟨0, 0⟩ : Cx), (⟨0, 0⟩ : Cx), ([] : List (S66)), false)))) else (some ((⟨0, 0⟩ : Cx), (⟨0, 0⟩ : Cx), (⟨0, 0⟩ : Cx), ([] : List (S66)), false)))
theorem impl_AddBank.mono : ∀ a0 a1 a2 a3 a4 a5 k, LeO (impl_AddBank.f k a0 a1 a2 a3 a4 a5) (impl_AddBank.f (k + 1) a0 a1 a2 a3 a4 a5) := by
 intro a0 a1 a2 a3 a4 a5 k
 unfold impl_AddBank.f
 repeat' first
   | (with_reducible exact impl_Feeder_has.mono _ _ _ _ _ _)
   | (with_reducible exact impl_told.mono _ _ _ _ _)
   | (with_reducible exact LeO.refl _)
   | (with_reducible exact LeO.none _)
   | (with_reducible refine LeO.ite ?_ ?_)
   | (with_reducible refine LeO.bind ?_ (fun _ => ?_))
   | exact impl_Feeder_has.mono _ _ _ _ _ _
   | exact impl_told.mono _ _ _ _ _
   | exact LeO.none _
   | refine LeO.ite ?_ ?_
   | refine LeO.bind ?_ (fun _ => ?_)
set_option maxHeartbeats 8000000 in
set_option maxRecDepth 100000 in
theorem impl_AddBank.calls (k : Nat) (a0_0 : Cx) (a0_1 : Cx) (a0_2 : Cx) (A0_3 : Option Addr) (c0_3 : Nat) (l0_3 : List (S66)) (a1 : Int) (a2 : Nat) (r1 : Cx) (r2 : Cx) (r3 : Cx) (r4 : List (S66)) (r5 : Bool) (w : World) (hr0_3 : Kd.C k66 w A0_3 l0_3.length l0_3) (hc0_3 : l0_3.length ≤ c0_3) (h : impl_AddBank.f k a0_0 a0_1 a0_2 l0_3 a1 a2 = some (r1, r2, r3, r4, r5)) :
  Calls Try.prog 33 #[.agg #[.complex .f32 a0_0.re a0_0.im, .complex .f32 a0_1.re a0_1.im, .complex .f32 a0_2.re a0_2.im, .slice A0_3 l0_3.length c0_3], .int .i64 a1, .float .f32 a2] w fun e w' => ∃ v3_ : Value, e = .returned (.tuple #[.agg #[.complex .f32 r1.re r1.im, .complex .f32 r2.re r2.im, .complex .f32 r3.re r3.im, v3_], .bool r5]) ∧ Kd.R k66 66 w' w.heap.size (fun _ => True) v3_ r4 ∧ Below w.heap.size w w' := by
 have hu42 := Try.underlying42
 have hu39 := Try.underlying39
 have hu66 := Try.underlying66
 have HR0_3 := Aside0.mk hr0_3
 have HC0_3 := Aside0.mk hc0_3
 clear hr0_3 hc0_3
 have HB := Aside0.mk (Below.refl w.heap.size w)
 have H : ((impl_Feeder_has.f k a0_0 a0_1 a0_2 l0_3 a1).bind fun bt219 => (if bt219.1 = true then ((impl_IsFinite.f a2).bind fun t223 => (if t223 = true then (if (feq .f32 a2 0) = true then (some ((⟨0, 0⟩ : Cx), (⟨0, 0⟩ : Cx), (⟨0, 0⟩ : Cx), ([] : List (S66)), false)) else ((impl_cloneFeeder.f bt219.2.1 bt219.2.2.1 bt219.2.2.2 l0_3).bind fun bt226 => ((impl_QuotientOf.f (⟨1065353216, 0⟩ : Cx) (⟨0, a2⟩ : Cx)).bind fun t232 => (if bt226.2.2.2.length < 2199023255552 then ((impl_told.f k bt226.1 bt226.2.1 bt226.2.2.1 (bt226.2.2.2 ++ [(⟨a1, (⟨0, 0⟩ : Cx), (⟨0, 0⟩ : Cx), 2, (⟨t232, t232, t232⟩ : S39), 0⟩ : S66)])).bind fun bt237 => (some (bt237.1, bt237.2.1, bt237.2.2.1, bt237.2.2.2.1, bt237.2.2.2.2))) else (none))))) else (some ((⟨0, 0⟩ : Cx), (⟨0, 0⟩ : Cx), (⟨0, 0⟩ : Cx), ([] : List (S66)), false)))) else (some ((⟨0, 0⟩ : Cx), (⟨0, 0⟩ : Cx), (⟨0, 0⟩ : Cx), ([] : List (S66)), false)))) = some (r1, r2, r3, r4, r5) := h
 clear h
 replace H := Option.bind_eq_some_iff.mp H
 obtain ⟨⟨t219, t220, t221, t222⟩, A40, H⟩ := H
 try dsimp only at H
 have A4 := Aside0.mk A40
 clear A40
 by_cases c5 : t219 = true
 ·subst c5
  rw [if_pos rfl] at H; try dsimp only at H
  replace H := Option.bind_eq_some_iff.mp H
  obtain ⟨t223, A60, H⟩ := H
  try dsimp only at H
  have A6 := Aside0.mk A60
  clear A60
  by_cases c7 : t223 = true
  ·subst c7
   rw [if_pos rfl] at H; try dsimp only at H
   by_cases c8 : (feq .f32 a2 0) = true
   ·rw [if_pos c8] at H
    have c8b0 : (feq .f32 a2 0) = true := c8
    clear c8
    simp only [Option.some.injEq, Prod.mk.injEq] at H
    obtain ⟨rfl, rfl, rfl, rfl, rfl⟩ := H
    go_enter Try.func33, Try.ntmps33
    go_wp2_with (first | ((with_reducible refine gate_dst (N := 3) rfl ?_); refine box_event ?hg (N := 3) ?hd (cs := #[.complex .f32 a0_0.re a0_0.im, .complex .f32 a0_1.re a0_1.im, .complex .f32 a0_2.re a0_2.im, .slice A0_3 l0_3.length c0_3]) (t := 42) ?hr ?_; (case hd => rfl); (case hg => rfl); (case hr => first | (go_simp; done) | (go_simp; rfl)); intro gb217 hg w9 hbox hb; have n0_ := Aside0.mk (below_step tb hb); have n1_ := Aside0.mk (hbox); have n2_ := Aside0.mk ((by rw [hg]; exact (below_size tb) : w.heap.size ≤ gb217)); have n3_ := Aside0.mk ((by rw [hg]; exact (below_size tb) : w.heap.size ≤ gb217)); clear HB; have HB := n0_; have BK217 := n1_; have GW217 := n2_; have GE217 := n3_; clear n0_ n1_ n2_ n3_; clear hb hbox hg; have HI217 := Aside0.mk (show IsS42 w _ gb217 a0_0 a0_1 a0_2 l0_3 from ⟨_, _, BK217.out, (by first | exact GE217.out | exact GW217.out), HR0_3.out, HC0_3.out⟩)) | ((with_reducible refine gate_dst (N := 6) rfl ?_); refine box_event ?hg (N := 6) ?hd (cs := #[.complex .f32 0 0, .complex .f32 0 0, .complex .f32 0 0, .slice none 0 0]) (t := 42) ?hr ?_; (case hd => rfl); (case hg => rfl); (case hr => first | (go_simp; done) | (go_simp; rfl)); intro gb218 hg w10 hbox hb; have n0_ := Aside0.mk (IsS42.below (by have hi_ := HI217.out; exact IsS42.up) hb); have n1_ := Aside0.mk (below_step (by have ge_ := IsS42.ge HI217.out; exact tb) hb); have n2_ := Aside0.mk (hbox); have n3_ := Aside0.mk ((by rw [hg]; exact (below_size (by have ge_ := IsS42.ge HI217.out; exact tb)) : w.heap.size ≤ gb218)); have n4_ := Aside0.mk ((by rw [hg]; exact (below_size (by have ge_ := IsS42.ge HI217.out; exact tb)) : w.heap.size ≤ gb218)); have n5_ := Aside0.mk ((by rw [hg]; exact Nat.ne_of_lt (IsS42.lt (show IsS42 w _ gb217 a0_0 a0_1 a0_2 l0_3 from by have hi_ := HI217.out; exact IsS42.up)) : gb217 ≠ gb218)); have n6_ := Aside0.mk ((by rw [hg]; exact Nat.ne_of_gt (IsS42.lt (show IsS42 w _ gb217 a0_0 a0_1 a0_2 l0_3 from by have hi_ := HI217.out; exact IsS42.up)) : gb218 ≠ gb217)); clear HI217; clear HB; have HI217 := n0_; have HB := n1_; have BK218 := n2_; have GW218 := n3_; have GE218 := n4_; have NB217_218 := n5_; have NB218_217 := n6_; clear n0_ n1_ n2_ n3_ n4_ n5_ n6_; clear hb hbox hg) | ((with_reducible refine gate_callee (f := 90) rfl ?_); refine gx_ (some 11) Try.func90 #[.pointer (some ⟨gb217, 0, none⟩), .int .i64 a1] ?_; (with_reducible refine (impl_Feeder_has.calls k gb217 a0_0 a0_1 a0_2 l0_3 a1 true t220 t221 t222 w _ ?side1 ?side2 A4.out).mono ?_); (case side1 => have hi_ := HI217.out; exact IsS42.up); (case side2 => have ge_ := IsS42.ge HI217.out; exact tb); rintro e w11 ⟨rfl, hi, hb, hk⟩; refine ⟨_, rfl, ?_⟩; have n0_ := Aside0.mk (KeepBut.blk hk (g' := gb218) (o := .cells #[.complex .f32 0 0, .complex .f32 0 0, .complex .f32 0 0, .slice none 0 0] 42 (0, 0)) (bu BK218.out) NB218_217.out (by simp)); have n1_ := Aside0.mk (hb); have n2_ := Aside0.mk (hi); clear BK218; clear HB; clear HI217; have BK218 := n0_; have HB := n1_; have HI217 := n2_; clear n0_ n1_ n2_; (try clear hb); (try clear hb2); (try clear hk); (try clear hi)) | (go_at_call 94; (with_reducible refine (impl_IsFinite.calls a2 true _ A6.out).mono ?_); rintro e w' ⟨rfl, ⟨nd, rfl⟩⟩; (try (rw [drewN_self w11]; generalize hq_ : World.drewN w11 _ = w11; have n0_ : Aside0 (w11.heap[gb218]? = some (.cells #[.complex .f32 0 0, .complex .f32 0 0, .complex .f32 0 0, .slice none 0 0] 42 (0, 0))) := ⟨by rw [← hq_]; exact (bu BK218.out)⟩; have n1_ : Aside0 (IsS42 w w11 gb217 t220 t221 t222 l0_3) := ⟨by rw [← hq_]; exact (by have hi_ := HI217.out; exact IsS42.up)⟩; have n2_ : Aside0 (Below w.heap.size w w11) := ⟨by rw [← hq_]; exact (by have ge_ := IsS42.ge HI217.out; exact tb)⟩; clear BK218 HI217 HB hq_; have BK218 := n0_; have HI217 := n1_; have HB := n2_; clear n0_ n1_ n2_)); have hnb12 := NB218_217.out; have hnc12 := NB217_218.out; have hcz13_0 : w11.cell? ⟨gb218, 0, none⟩ = some (.complex .f32 0 0) := (blk_cell BK218.out 0).trans rfl; have hcz13_1 : w11.cell? ⟨gb218, 1, none⟩ = some (.complex .f32 0 0) := (blk_cell BK218.out 1).trans rfl; have hcz13_2 : w11.cell? ⟨gb218, 2, none⟩ = some (.complex .f32 0 0) := (blk_cell BK218.out 2).trans rfl; have hcz13_3 : w11.cell? ⟨gb218, 3, none⟩ = some (.slice none 0 0) := (blk_cell BK218.out 3).trans rfl; have hfz13_0 := blk_frozen BK218.out 0; have hfz13_1 := blk_frozen BK218.out 1; have hfz13_2 := blk_frozen BK218.out 2; have hfz13_3 := blk_frozen BK218.out 3))
    refine bodyPost_ret (results_ct rfl _ _ gb218 42 #[.complex .f32 0 0, .complex .f32 0 0, .complex .f32 0 0, .slice none 0 0] (0, 0) _ rfl (by refine bu ?_; refine blk_put (cs := #[.complex .f32 0 0, .complex .f32 0 0, .complex .f32 0 0, .slice none 0 0]) ?_ 3 _ rfl; refine bu ?_; refine blk_put (cs := #[.complex .f32 0 0, .complex .f32 0 0, .complex .f32 0 0, .slice none 0 0]) ?_ 2 _ rfl; refine bu ?_; refine blk_put (cs := #[.complex .f32 0 0, .complex .f32 0 0, .complex .f32 0 0, .slice none 0 0]) ?_ 1 _ rfl; refine bu ?_; refine blk_put (cs := #[.complex .f32 0 0, .complex .f32 0 0, .complex .f32 0 0, .slice none 0 0]) ?_ 0 _ rfl; refine bu ?_; exact BK218.out) Try.underlying42 rfl (by kernel_rfl)) rfl ?_
    exact ⟨_, re_, by first | exact Kd.R_nil _ _ _ _ _ | exact Kd.N_nil _ _ _ _ _ | exact Kd.V_nil _ _ _ _ _ | exact Kd.Q_nil _ _ _ _ _ | exact Kd.S_nil _ _ _ _ _, by have ge_ := IsS42.ge HI217.out; exact tb⟩
   ·rw [if_neg c8] at H
    have c8b0 : (feq .f32 a2 0) = false := by simpa using c8
    clear c8
    replace H := Option.bind_eq_some_iff.mp H
    obtain ⟨⟨t226, t227, t228, t229⟩, A140, H⟩ := H
    try dsimp only at H
    have A14 := Aside0.mk A140
    clear A140
    replace H := Option.bind_eq_some_iff.mp H
    obtain ⟨t232, A150, H⟩ := H
    try dsimp only at H
    have A15 := Aside0.mk A150
    clear A150
    by_cases c16 : t229.length < 2199023255552
    ·rw [if_pos c16] at H
     have LMc16 := Aside0.mk c16
     clear c16
     obtain ⟨y234, hy234⟩ : ∃ y_ : List (S66), y_ = (t229 ++ [(⟨a1, (⟨0, 0⟩ : Cx), (⟨0, 0⟩ : Cx), 2, (⟨t232, t232, t232⟩ : S39), 0⟩ : S66)]) := ⟨_, rfl⟩
     replace H : ((impl_told.f k t226 t227 t228 y234).bind fun bt237 => (some (bt237.1, bt237.2.1, bt237.2.2.1, bt237.2.2.2.1, bt237.2.2.2.2))) = some (r1, r2, r3, r4, r5) := by first | (rw [hy234]; with_reducible exact H) | (have H2_ := (Option.bind_some _ _).symm.trans H; rw [hy234]; with_reducible exact H2_) | (have H2_ := (Option.bind_some _ _).symm.trans H; with_reducible exact H2_) | with_reducible exact H | (rw [hy234]; exact H) | exact H
     have Ny234 := Aside0.mk hy234
     clear hy234
     replace H := Option.bind_eq_some_iff.mp H
     obtain ⟨⟨t237, t238, t239, t240, t243⟩, A170, H⟩ := H
     try dsimp only at H
     have A17 := Aside0.mk A170
     clear A170
     simp only [Option.some.injEq, Prod.mk.injEq] at H
     obtain ⟨rfl, rfl, rfl, rfl, rfl⟩ := H
     go_enter Try.func33, Try.ntmps33
     go_wp2_with (first | ((with_reducible refine gate_dst (N := 3) rfl ?_); refine box_event ?hg (N := 3) ?hd (cs := #[.complex .f32 a0_0.re a0_0.im, .complex .f32 a0_1.re a0_1.im, .complex .f32 a0_2.re a0_2.im, .slice A0_3 l0_3.length c0_3]) (t := 42) ?hr ?_; (case hd => rfl); (case hg => rfl); (case hr => first | (go_simp; done) | (go_simp; rfl)); intro gb217 hg w18 hbox hb; have n0_ := Aside0.mk (below_step tb hb); have n1_ := Aside0.mk (hbox); have n2_ := Aside0.mk ((by rw [hg]; exact (below_size tb) : w.heap.size ≤ gb217)); have n3_ := Aside0.mk ((by rw [hg]; exact (below_size tb) : w.heap.size ≤ gb217)); clear HB; have HB := n0_; have BK217 := n1_; have GW217 := n2_; have GE217 := n3_; clear n0_ n1_ n2_ n3_; clear hb hbox hg; have HI217 := Aside0.mk (show IsS42 w _ gb217 a0_0 a0_1 a0_2 l0_3 from ⟨_, _, BK217.out, (by first | exact GE217.out | exact GW217.out), HR0_3.out, HC0_3.out⟩)) | ((with_reducible refine gate_dst (N := 6) rfl ?_); refine box_event ?hg (N := 6) ?hd (cs := #[.complex .f32 0 0, .complex .f32 0 0, .complex .f32 0 0, .slice none 0 0]) (t := 42) ?hr ?_; (case hd => rfl); (case hg => rfl); (case hr => first | (go_simp; done) | (go_simp; rfl)); intro gb218 hg w19 hbox hb; have n0_ := Aside0.mk (IsS42.below (by have hi_ := HI217.out; exact IsS42.up) hb); have n1_ := Aside0.mk (below_step (by have ge_ := IsS42.ge HI217.out; exact tb) hb); have n2_ := Aside0.mk (hbox); have n3_ := Aside0.mk ((by rw [hg]; exact (below_size (by have ge_ := IsS42.ge HI217.out; exact tb)) : w.heap.size ≤ gb218)); have n4_ := Aside0.mk ((by rw [hg]; exact (below_size (by have ge_ := IsS42.ge HI217.out; exact tb)) : w.heap.size ≤ gb218)); have n5_ := Aside0.mk ((by rw [hg]; exact Nat.ne_of_lt (IsS42.lt (show IsS42 w _ gb217 a0_0 a0_1 a0_2 l0_3 from by have hi_ := HI217.out; exact IsS42.up)) : gb217 ≠ gb218)); have n6_ := Aside0.mk ((by rw [hg]; exact Nat.ne_of_gt (IsS42.lt (show IsS42 w _ gb217 a0_0 a0_1 a0_2 l0_3 from by have hi_ := HI217.out; exact IsS42.up)) : gb218 ≠ gb217)); clear HI217; clear HB; have HI217 := n0_; have HB := n1_; have BK218 := n2_; have GW218 := n3_; have GE218 := n4_; have NB217_218 := n5_; have NB218_217 := n6_; clear n0_ n1_ n2_ n3_ n4_ n5_ n6_; clear hb hbox hg) | ((with_reducible refine gate_callee (f := 90) rfl ?_); refine gx_ (some 11) Try.func90 #[.pointer (some ⟨gb217, 0, none⟩), .int .i64 a1] ?_; (with_reducible refine (impl_Feeder_has.calls k gb217 a0_0 a0_1 a0_2 l0_3 a1 true t220 t221 t222 w _ ?side1 ?side2 A4.out).mono ?_); (case side1 => have hi_ := HI217.out; exact IsS42.up); (case side2 => have ge_ := IsS42.ge HI217.out; exact tb); rintro e w20 ⟨rfl, hi, hb, hk⟩; refine ⟨_, rfl, ?_⟩; have n0_ := Aside0.mk (KeepBut.blk hk (g' := gb218) (o := .cells #[.complex .f32 0 0, .complex .f32 0 0, .complex .f32 0 0, .slice none 0 0] 42 (0, 0)) (bu BK218.out) NB218_217.out (by simp)); have n1_ := Aside0.mk (hb); have n2_ := Aside0.mk (hi); clear BK218; clear HB; clear HI217; have BK218 := n0_; have HB := n1_; have HI217 := n2_; clear n0_ n1_ n2_; (try clear hb); (try clear hb2); (try clear hk); (try clear hi)) | (go_at_call 94; (with_reducible refine (impl_IsFinite.calls a2 true _ A6.out).mono ?_); rintro e w' ⟨rfl, ⟨nd, rfl⟩⟩; (try (rw [drewN_self w20]; generalize hq_ : World.drewN w20 _ = w20; have n0_ : Aside0 (w20.heap[gb218]? = some (.cells #[.complex .f32 0 0, .complex .f32 0 0, .complex .f32 0 0, .slice none 0 0] 42 (0, 0))) := ⟨by rw [← hq_]; exact (bu BK218.out)⟩; have n1_ : Aside0 (IsS42 w w20 gb217 t220 t221 t222 l0_3) := ⟨by rw [← hq_]; exact (by have hi_ := HI217.out; exact IsS42.up)⟩; have n2_ : Aside0 (Below w.heap.size w w20) := ⟨by rw [← hq_]; exact (by have ge_ := IsS42.ge HI217.out; exact tb)⟩; clear BK218 HI217 HB hq_; have BK218 := n0_; have HI217 := n1_; have HB := n2_; clear n0_ n1_ n2_)); obtain ⟨ASz21_3, cSz21_3, HGz21, hgz21, HSz21_3, HLz21_3⟩ := HI217.out; have hcz21_0 := cellS42_0 HGz21; have hcz21_1 := cellS42_1 HGz21; have hcz21_2 := cellS42_2 HGz21; have hcz21_3 := cellS42_3 HGz21; have hfz21_0 := blk_frozen HGz21 0; have hfz21_1 := blk_frozen HGz21 1; have hfz21_2 := blk_frozen HGz21 2; clear HGz21 hgz21; have HR225 := Aside0.mk HSz21_3; have HC225 := Aside0.mk HLz21_3) | ((with_reducible refine gate_callee (f := 79) rfl ?_); refine gx_ (some 24) Try.func79 #[.agg #[.complex .f32 t220.re t220.im, .complex .f32 t221.re t221.im, .complex .f32 t222.re t222.im, .slice ASz21_3 l0_3.length cSz21_3]] ?_; (with_reducible refine (impl_cloneFeeder.calls t220 t221 t222 _ _ l0_3 t226 t227 t228 t229 _ ?side1 ?side2 A14.out).mono ?_); (case side1 => exact cu ((Kd.C_below HR225.out HB.out))); (case side2 => exact HC225.out); rintro e w22 ⟨v230, rfl, ho0, hb⟩; refine ⟨_, rfl, ?_⟩; have n0_ := Aside0.mk (Kd.R_lower ho0 (below_size (by have ge_ := IsS42.ge HI217.out; exact tb))); have n1_ := Aside0.mk (IsS42.below (by have hi_ := HI217.out; exact IsS42.up) hb); have n2_ := Aside0.mk (blk_below (g := gb218) (o := .cells #[.complex .f32 0 0, .complex .f32 0 0, .complex .f32 0 0, .slice none 0 0] 42 (0, 0)) (bu BK218.out) hb); have n3_ := Aside0.mk (below_step (by have ge_ := IsS42.ge HI217.out; exact tb) hb); clear HI217; clear BK218; clear HB; have HO231 := n0_; have HI217 := n1_; have BK218 := n2_; have HB := n3_; clear n0_ n1_ n2_ n3_; (try clear hb); (try clear hb2); (try clear hk); (try clear hi); (try clear ho0)) | ((with_reducible refine gate_callee (f := 95) rfl ?_); refine gx_ (some 27) Try.func95 #[.complex .f32 1065353216 0, .complex .f32 0 a2] ?_; (with_reducible refine (impl_QuotientOf.calls (⟨1065353216, 0⟩ : Cx) (⟨0, a2⟩ : Cx) t232 _ A15.out).mono ?_); rintro e w23 ⟨rfl, hb⟩; refine ⟨_, rfl, ?_⟩; have n0_ := Aside0.mk (Kd.R_below (ru HO231.out) hb); have n1_ := Aside0.mk (IsS42.below (by have hi_ := HI217.out; exact IsS42.up) hb); have n2_ := Aside0.mk (blk_below (g := gb218) (o := .cells #[.complex .f32 0 0, .complex .f32 0 0, .complex .f32 0 0, .slice none 0 0] 42 (0, 0)) (bu BK218.out) hb); have n3_ := Aside0.mk (below_step (by have ge_ := IsS42.ge HI217.out; exact tb) hb); clear HO231; clear HI217; clear BK218; clear HB; have HO231 := n0_; have HI217 := n1_; have BK218 := n2_; have HB := n3_; clear n0_ n1_ n2_ n3_; (try clear hb); (try clear hb2); (try clear hk); (try clear hi)) | ((with_reducible refine gate_dst (N := 8) rfl ?_); refine box_event ?hg (N := 8) ?hd (cs := #[.complex .f32 0 0, .complex .f32 0 0, .complex .f32 0 0, .slice none 0 0]) (t := 42) ?hr ?_; (case hd => rfl); (case hg => rfl); (case hr => first | (go_simp; done) | (go_simp; rfl)); intro gb233 hg w24 hbox hb; have n0_ := Aside0.mk (Kd.R_below (ru HO231.out) hb); have n1_ := Aside0.mk (IsS42.below (by have hi_ := HI217.out; exact IsS42.up) hb); have n2_ := Aside0.mk (blk_below (g := gb218) (o := .cells #[.complex .f32 0 0, .complex .f32 0 0, .complex .f32 0 0, .slice none 0 0] 42 (0, 0)) (bu BK218.out) hb); have n3_ := Aside0.mk (below_step (by have ge_ := IsS42.ge HI217.out; exact tb) hb); have n4_ := Aside0.mk (hbox); have n5_ := Aside0.mk ((by rw [hg]; exact (below_size (by have ge_ := IsS42.ge HI217.out; exact tb)) : w.heap.size ≤ gb233)); have n6_ := Aside0.mk ((by rw [hg]; exact (below_size (by have ge_ := IsS42.ge HI217.out; exact tb)) : w.heap.size ≤ gb233)); have n7_ := Aside0.mk ((by rw [hg]; exact Nat.ne_of_lt (blk_lt (g := gb218) (o := .cells #[.complex .f32 0 0, .complex .f32 0 0, .complex .f32 0 0, .slice none 0 0] 42 (0, 0)) (bu BK218.out)) : gb218 ≠ gb233)); have n8_ := Aside0.mk ((by rw [hg]; exact Nat.ne_of_gt (blk_lt (g := gb218) (o := .cells #[.complex .f32 0 0, .complex .f32 0 0, .complex .f32 0 0, .slice none 0 0] 42 (0, 0)) (bu BK218.out)) : gb233 ≠ gb218)); have n9_ := Aside0.mk ((by rw [hg]; exact Nat.ne_of_lt (IsS42.lt (show IsS42 w _ gb217 t220 t221 t222 l0_3 from by have hi_ := HI217.out; exact IsS42.up)) : gb217 ≠ gb233)); have n10_ := Aside0.mk ((by rw [hg]; exact Nat.ne_of_gt (IsS42.lt (show IsS42 w _ gb217 t220 t221 t222 l0_3 from by have hi_ := HI217.out; exact IsS42.up)) : gb233 ≠ gb217)); clear HO231; clear HI217; clear BK218; clear HB; have HO231 := n0_; have HI217 := n1_; have BK218 := n2_; have HB := n3_; have BK233 := n4_; have GW233 := n5_; have GE233 := n6_; have NB218_233 := n7_; have NB233_218 := n8_; have NB217_233 := n9_; have NB233_217 := n10_; clear n0_ n1_ n2_ n3_ n4_ n5_ n6_ n7_ n8_ n9_ n10_; clear hb hbox hg; have hnb25 := NB233_218.out; have hnc25 := NB218_233.out; have hnb26 := NB233_217.out; have hnc26 := NB217_233.out; have hcz27_0 : w24.cell? ⟨gb233, 0, none⟩ = some (.complex .f32 0 0) := (blk_cell BK233.out 0).trans rfl; have hcz27_1 : w24.cell? ⟨gb233, 1, none⟩ = some (.complex .f32 0 0) := (blk_cell BK233.out 1).trans rfl; have hcz27_2 : w24.cell? ⟨gb233, 2, none⟩ = some (.complex .f32 0 0) := (blk_cell BK233.out 2).trans rfl; have hcz27_3 : w24.cell? ⟨gb233, 3, none⟩ = some (.slice none 0 0) := (blk_cell BK233.out 3).trans rfl; have hfz27_0 := blk_frozen BK233.out 0; have hfz27_1 := blk_frozen BK233.out 1; have hfz27_2 := blk_frozen BK233.out 2; have hfz27_3 := blk_frozen BK233.out 3; obtain ⟨Ao28, co28, eo28⟩ := Kd.R_slice HO231.out; subst eo28) | ((with_reducible refine gate_builtin (b := .append) (xs := #[.tmp 29, .tmp 36]) rfl ?_); at_builtin; refine Kd.R_append k66 (w0 := w) w.heap.size rfl (.tmp 29) (.tmp 36) 40 66 (.agg #[(.int .i64 0), (.complex .f32 0 0), (.complex .f32 0 0), (.int .i64 0), (.complex .f32 0 0), (.complex .f32 0 0), (.complex .f32 0 0), (.int .i64 0)]) 64 rfl Try.underlying40 info66 rfl (by decide) (by omega) (.slice Ao28 t229.length co28) t229 (⟨a1, (⟨0, 0⟩ : Cx), (⟨0, 0⟩ : Cx), 2, (⟨t232, t232, t232⟩ : S39), 0⟩ : S66) [.int .i64 a1, .complex .f32 0 0, .complex .f32 0 0, .int .i64 2, .complex .f32 t232.re t232.im, .complex .f32 t232.re t232.im, .complex .f32 t232.re t232.im, .int .i64 0] (fun _ => True) (fun _ => False) rfl (by first | (go_simp; done) | (go_simp; rfl)) ?aP (fun _ hk => hk.elim) ?aF ?aO ?aB ?aS ?aL ?_; (case aP => exact k66_mkM _ _ _ (⟨a1, (⟨0, 0⟩ : Cx), (⟨0, 0⟩ : Cx), 2, (⟨t232, t232, t232⟩ : S39), 0⟩ : S66)); (case aB => exact (by have ge_ := IsS42.ge HI217.out; exact tb)); (case aF => exact (fun _ _ => trivial)); (case aO => exact (by refine ru ?_; exact Kd.R_mono (Kd.R_far (p := ⟨gb233, 3, none⟩) (Kd.R_far (p := ⟨gb233, 2, none⟩) (Kd.R_far (p := ⟨gb233, 1, none⟩) (Kd.R_far (p := ⟨gb233, 0, none⟩) (Kd.R_types HO231.out BK233.out (by decide)) (fun _ hk => hk.2) (.complex .f32 t226.re t226.im)) (fun _ hk => hk.2) (.complex .f32 t227.re t227.im)) (fun _ hk => hk.2) (.complex .f32 t228.re t228.im)) (fun _ hk => hk.2) (.slice Ao28 t229.length co28)) (fun _ hk => trivial))); (case aS => exact (below_size (by have ge_ := IsS42.ge HI217.out; exact tb))); (case aL => have := LMc16.out; omega); intro v235 w29 ho hb hg hat; rw [← Ny234.out] at ho; have n0_ := Aside0.mk (IsS42.grown (show IsS42 w _ gb217 t220 t221 t222 l0_3 from by have hi_ := HI217.out; exact IsS42.up) hg (IsS42.own_ne HI217.out HO231.out (by decide))); have n1_ := Aside0.mk (blk_grown (g := gb218) (o := .cells #[.complex .f32 0 0, .complex .f32 0 0, .complex .f32 0 0, .slice none 0 0] 42 (0, 0)) (bv BK218.out) hg (Kd.R_ne HO231.out BK218.out (by decide))); have n2_ := Aside0.mk (blk_grown (g := gb233) (o := .cells #[.complex .f32 t226.re t226.im, .complex .f32 t227.re t227.im, .complex .f32 t228.re t228.im, .slice Ao28 t229.length co28] 42 (0, 0)) (by refine bu ?_; refine blk_put (cs := #[.complex .f32 t226.re t226.im, .complex .f32 t227.re t227.im, .complex .f32 t228.re t228.im, .slice none 0 0]) ?_ 3 _ rfl; refine bu ?_; refine blk_put (cs := #[.complex .f32 t226.re t226.im, .complex .f32 t227.re t227.im, .complex .f32 0 0, .slice none 0 0]) ?_ 2 _ rfl; refine bu ?_; refine blk_put (cs := #[.complex .f32 t226.re t226.im, .complex .f32 0 0, .complex .f32 0 0, .slice none 0 0]) ?_ 1 _ rfl; refine bu ?_; refine blk_put (cs := #[.complex .f32 0 0, .complex .f32 0 0, .complex .f32 0 0, .slice none 0 0]) ?_ 0 _ rfl; refine bu ?_; exact BK233.out) hg (Kd.R_ne HO231.out BK233.out (by decide))); have n3_ := Aside0.mk (hb); have n4_ := Aside0.mk (ho); clear HI217; clear BK218; clear BK233; clear HB; clear HO231; have HI217 := n0_; have BK218 := n1_; have BK233 := n2_; have HB := n3_; have HO236 := n4_; clear n0_ n1_ n2_ n3_ n4_; clear ho hb hg hat; obtain ⟨Ao30, co30, eo30⟩ := Kd.R_slice HO236.out; subst eo30; have hcz31_0 : w29.cell? ⟨gb233, 0, none⟩ = some (.complex .f32 t226.re t226.im) := (blk_cell BK233.out 0).trans rfl; have hcz31_1 : w29.cell? ⟨gb233, 1, none⟩ = some (.complex .f32 t227.re t227.im) := (blk_cell BK233.out 1).trans rfl; have hcz31_2 : w29.cell? ⟨gb233, 2, none⟩ = some (.complex .f32 t228.re t228.im) := (blk_cell BK233.out 2).trans rfl; have hcz31_3 : w29.cell? ⟨gb233, 3, none⟩ = some (.slice Ao28 t229.length co28) := (blk_cell BK233.out 3).trans rfl; have hfz31_0 := blk_frozen BK233.out 0; have hfz31_1 := blk_frozen BK233.out 1; have hfz31_2 := blk_frozen BK233.out 2; have hfz31_3 := blk_frozen BK233.out 3) | ((with_reducible refine gate_store (t := 40) (p := 38) rfl ?_); refine store_event (t := 40) (p := 38) (v := ?vo_w32) (w1 := (w29.setCell ⟨gb233, 3, none⟩ (.slice Ao30 y234.length co30))) ?hg ?ho ?hn ?hr ?_; (case ho => rfl); (case hg => rfl); (case hn => rfl); (case hr => first | (go_simp; done) | (go_simp; rfl)); intro w32 hw; have n0_ : Aside0 (Kd.R k66 66 w32 w.heap.size (fun _ => True) (.slice Ao30 y234.length co30) y234) := ⟨(by rw [hw]; exact (by refine ru ?_; exact Kd.R_mono (Kd.R_far (p := ⟨gb233, 3, none⟩) (Kd.R_types HO236.out BK233.out (by decide)) (fun _ hk => hk.2) (.slice Ao30 y234.length co30)) (fun _ hk => trivial)))⟩; have n1_ : Aside0 (w32.heap[gb218]? = some (.cells #[.complex .f32 0 0, .complex .f32 0 0, .complex .f32 0 0, .slice none 0 0] 42 (0, 0))) := ⟨(by rw [hw]; exact (bv BK218.out))⟩; have n2_ : Aside0 (w32.heap[gb233]? = some (.cells #[.complex .f32 t226.re t226.im, .complex .f32 t227.re t227.im, .complex .f32 t228.re t228.im, .slice Ao30 y234.length co30] 42 (0, 0))) := ⟨(by rw [hw]; exact (by refine bu ?_; refine blk_put (cs := #[.complex .f32 t226.re t226.im, .complex .f32 t227.re t227.im, .complex .f32 t228.re t228.im, .slice Ao28 t229.length co28]) ?_ 3 _ rfl; refine bu ?_; exact BK233.out))⟩; have n3_ : Aside0 (IsS42 w w32 gb217 t220 t221 t222 l0_3) := ⟨(by rw [hw]; exact (by have hi_ := HI217.out; exact IsS42.up))⟩; have n4_ : Aside0 (Below w.heap.size w w32) := ⟨(by rw [hw]; exact (by have ge_ := IsS42.ge HI217.out; exact tb))⟩; clear hw; clear HO236; clear BK218; clear BK233; clear HI217; clear HB; have HO236 := n0_; have BK218 := n1_; have BK233 := n2_; have HI217 := n3_; have HB := n4_; clear n0_ n1_ n2_ n3_ n4_; have hcz33_0 : w32.cell? ⟨gb233, 0, none⟩ = some (.complex .f32 t226.re t226.im) := (blk_cell BK233.out 0).trans rfl; have hcz33_1 : w32.cell? ⟨gb233, 1, none⟩ = some (.complex .f32 t227.re t227.im) := (blk_cell BK233.out 1).trans rfl; have hcz33_2 : w32.cell? ⟨gb233, 2, none⟩ = some (.complex .f32 t228.re t228.im) := (blk_cell BK233.out 2).trans rfl; have hcz33_3 : w32.cell? ⟨gb233, 3, none⟩ = some (.slice Ao30 y234.length co30) := (blk_cell BK233.out 3).trans rfl; have hfz33_0 := blk_frozen BK233.out 0; have hfz33_1 := blk_frozen BK233.out 1; have hfz33_2 := blk_frozen BK233.out 2; have hfz33_3 := blk_frozen BK233.out 3) | ((with_reducible refine gate_callee (f := 96) rfl ?_); refine gx_ (some 40) Try.func96 #[.agg #[.complex .f32 t226.re t226.im, .complex .f32 t227.re t227.im, .complex .f32 t228.re t228.im, .slice Ao30 y234.length co30]] ?_; (with_reducible refine (impl_told.calls k t226 t227 t228 (fun k_ => some k_ = (.slice Ao30 y234.length co30 : Value).ownBlock) (.slice Ao30 y234.length co30) y234 t237 t238 t239 t240 t243 w _ ?side1 ?side2 A17.out).mono ?_); (case side1 => have ge_ := IsS42.ge HI217.out; exact tb); (case side2 => exact Kd.R_tight rfl HO236.out); rintro e w34 ⟨v241, rfl, ho0, hb, hkp⟩; refine ⟨_, rfl, ?_⟩; have n0_ := Aside0.mk (IsS42.kept (by have hi_ := HI217.out; exact IsS42.up) hkp (fun hs_ => (fun e_ => (IsS42.own_ne HI217.out HO236.out (by decide)) e_) hs_)); have n1_ := Aside0.mk (blk_kept (bu BK218.out) hkp (fun hs_ => (fun e_ => (Kd.R_ne HO236.out BK218.out (by decide)) e_) hs_)); have n2_ := Aside0.mk (blk_kept (bu BK233.out) hkp (fun hs_ => (fun e_ => (Kd.R_ne HO236.out BK233.out (by decide)) e_) hs_)); have n3_ := Aside0.mk (Kd.R_mono (ok' := fun k_ => True) ho0 (fun k_ hk_ => trivial)); have n4_ := Aside0.mk (hb); clear HI217; clear BK218; clear BK233; clear HB; clear HO236; have HI217 := n0_; have BK218 := n1_; have BK233 := n2_; have HO242 := n3_; have HB := n4_; clear n0_ n1_ n2_ n3_ n4_; (try clear hb); (try clear hkp); (try clear ho0); have hnb35 := NB218_217.out; have hnc35 := NB217_218.out; have hcz36_0 : w34.cell? ⟨gb218, 0, none⟩ = some (.complex .f32 0 0) := (blk_cell BK218.out 0).trans rfl; have hcz36_1 : w34.cell? ⟨gb218, 1, none⟩ = some (.complex .f32 0 0) := (blk_cell BK218.out 1).trans rfl; have hcz36_2 : w34.cell? ⟨gb218, 2, none⟩ = some (.complex .f32 0 0) := (blk_cell BK218.out 2).trans rfl; have hcz36_3 : w34.cell? ⟨gb218, 3, none⟩ = some (.slice none 0 0) := (blk_cell BK218.out 3).trans rfl; have hfz36_0 := blk_frozen BK218.out 0; have hfz36_1 := blk_frozen BK218.out 1; have hfz36_2 := blk_frozen BK218.out 2; have hfz36_3 := blk_frozen BK218.out 3; obtain ⟨Ao37, co37, eo37⟩ := Kd.R_slice HO242.out; subst eo37))
     refine bodyPost_ret (results_ct rfl _ _ gb218 42 #[.complex .f32 t237.re t237.im, .complex .f32 t238.re t238.im, .complex .f32 t239.re t239.im, .slice Ao37 t240.length co37] (0, 0) _ rfl (by refine bu ?_; refine blk_put (cs := #[.complex .f32 t237.re t237.im, .complex .f32 t238.re t238.im, .complex .f32 t239.re t239.im, .slice none 0 0]) ?_ 3 _ rfl; refine bu ?_; refine blk_put (cs := #[.complex .f32 t237.re t237.im, .complex .f32 t238.re t238.im, .complex .f32 0 0, .slice none 0 0]) ?_ 2 _ rfl; refine bu ?_; refine blk_put (cs := #[.complex .f32 t237.re t237.im, .complex .f32 0 0, .complex .f32 0 0, .slice none 0 0]) ?_ 1 _ rfl; refine bu ?_; refine blk_put (cs := #[.complex .f32 0 0, .complex .f32 0 0, .complex .f32 0 0, .slice none 0 0]) ?_ 0 _ rfl; refine bu ?_; exact BK218.out) Try.underlying42 rfl (by kernel_rfl)) rfl ?_
     exact ⟨_, re_, by refine ru ?_; exact Kd.R_mono (Kd.R_far (p := ⟨gb218, 3, none⟩) (Kd.R_far (p := ⟨gb218, 2, none⟩) (Kd.R_far (p := ⟨gb218, 1, none⟩) (Kd.R_far (p := ⟨gb218, 0, none⟩) (Kd.R_types HO242.out BK218.out (by decide)) (fun _ hk => hk.2) (.complex .f32 t237.re t237.im)) (fun _ hk => hk.2) (.complex .f32 t238.re t238.im)) (fun _ hk => hk.2) (.complex .f32 t239.re t239.im)) (fun _ hk => hk.2) (.slice Ao37 t240.length co37)) (fun _ hk => trivial), by have ge_ := IsS42.ge HI217.out; exact tb⟩
    ·rw [if_neg c16] at H
     exact absurd H (by simp)
  ·replace c7 := Bool.eq_false_iff.mpr c7
   subst c7
   have H1 : (some ((⟨0, 0⟩ : Cx), (⟨0, 0⟩ : Cx), (⟨0, 0⟩ : Cx), ([] : List (S66)), false)) = some (r1, r2, r3, r4, r5) := by rw [if_neg (show ¬ (false = true) by decide)] at H; exact H
   clear H
   have H := H1
   clear H1
   simp only [Option.some.injEq, Prod.mk.injEq] at H
   obtain ⟨rfl, rfl, rfl, rfl, rfl⟩ := H
   go_enter Try.func33, Try.ntmps33
   go_wp2_with (first | ((with_reducible refine gate_dst (N := 3) rfl ?_); refine box_event ?hg (N := 3) ?hd (cs := #[.complex .f32 a0_0.re a0_0.im, .complex .f32 a0_1.re a0_1.im, .complex .f32 a0_2.re a0_2.im, .slice A0_3 l0_3.length c0_3]) (t := 42) ?hr ?_; (case hd => rfl); (case hg => rfl); (case hr => first | (go_simp; done) | (go_simp; rfl)); intro gb217 hg w38 hbox hb; have n0_ := Aside0.mk (below_step tb hb); have n1_ := Aside0.mk (hbox); have n2_ := Aside0.mk ((by rw [hg]; exact (below_size tb) : w.heap.size ≤ gb217)); have n3_ := Aside0.mk ((by rw [hg]; exact (below_size tb) : w.heap.size ≤ gb217)); clear HB; have HB := n0_; have BK217 := n1_; have GW217 := n2_; have GE217 := n3_; clear n0_ n1_ n2_ n3_; clear hb hbox hg; have HI217 := Aside0.mk (show IsS42 w _ gb217 a0_0 a0_1 a0_2 l0_3 from ⟨_, _, BK217.out, (by first | exact GE217.out | exact GW217.out), HR0_3.out, HC0_3.out⟩)) | ((with_reducible refine gate_dst (N := 6) rfl ?_); refine box_event ?hg (N := 6) ?hd (cs := #[.complex .f32 0 0, .complex .f32 0 0, .complex .f32 0 0, .slice none 0 0]) (t := 42) ?hr ?_; (case hd => rfl); (case hg => rfl); (case hr => first | (go_simp; done) | (go_simp; rfl)); intro gb218 hg w39 hbox hb; have n0_ := Aside0.mk (IsS42.below (by have hi_ := HI217.out; exact IsS42.up) hb); have n1_ := Aside0.mk (below_step (by have ge_ := IsS42.ge HI217.out; exact tb) hb); have n2_ := Aside0.mk (hbox); have n3_ := Aside0.mk ((by rw [hg]; exact (below_size (by have ge_ := IsS42.ge HI217.out; exact tb)) : w.heap.size ≤ gb218)); have n4_ := Aside0.mk ((by rw [hg]; exact (below_size (by have ge_ := IsS42.ge HI217.out; exact tb)) : w.heap.size ≤ gb218)); have n5_ := Aside0.mk ((by rw [hg]; exact Nat.ne_of_lt (IsS42.lt (show IsS42 w _ gb217 a0_0 a0_1 a0_2 l0_3 from by have hi_ := HI217.out; exact IsS42.up)) : gb217 ≠ gb218)); have n6_ := Aside0.mk ((by rw [hg]; exact Nat.ne_of_gt (IsS42.lt (show IsS42 w _ gb217 a0_0 a0_1 a0_2 l0_3 from by have hi_ := HI217.out; exact IsS42.up)) : gb218 ≠ gb217)); clear HI217; clear HB; have HI217 := n0_; have HB := n1_; have BK218 := n2_; have GW218 := n3_; have GE218 := n4_; have NB217_218 := n5_; have NB218_217 := n6_; clear n0_ n1_ n2_ n3_ n4_ n5_ n6_; clear hb hbox hg) | ((with_reducible refine gate_callee (f := 90) rfl ?_); refine gx_ (some 11) Try.func90 #[.pointer (some ⟨gb217, 0, none⟩), .int .i64 a1] ?_; (with_reducible refine (impl_Feeder_has.calls k gb217 a0_0 a0_1 a0_2 l0_3 a1 true t220 t221 t222 w _ ?side1 ?side2 A4.out).mono ?_); (case side1 => have hi_ := HI217.out; exact IsS42.up); (case side2 => have ge_ := IsS42.ge HI217.out; exact tb); rintro e w40 ⟨rfl, hi, hb, hk⟩; refine ⟨_, rfl, ?_⟩; have n0_ := Aside0.mk (KeepBut.blk hk (g' := gb218) (o := .cells #[.complex .f32 0 0, .complex .f32 0 0, .complex .f32 0 0, .slice none 0 0] 42 (0, 0)) (bu BK218.out) NB218_217.out (by simp)); have n1_ := Aside0.mk (hb); have n2_ := Aside0.mk (hi); clear BK218; clear HB; clear HI217; have BK218 := n0_; have HB := n1_; have HI217 := n2_; clear n0_ n1_ n2_; (try clear hb); (try clear hb2); (try clear hk); (try clear hi)) | (go_at_call 94; (with_reducible refine (impl_IsFinite.calls a2 false _ A6.out).mono ?_); rintro e w' ⟨rfl, ⟨nd, rfl⟩⟩; (try (rw [drewN_self w40]; generalize hq_ : World.drewN w40 _ = w40; have n0_ : Aside0 (w40.heap[gb218]? = some (.cells #[.complex .f32 0 0, .complex .f32 0 0, .complex .f32 0 0, .slice none 0 0] 42 (0, 0))) := ⟨by rw [← hq_]; exact (bu BK218.out)⟩; have n1_ : Aside0 (IsS42 w w40 gb217 t220 t221 t222 l0_3) := ⟨by rw [← hq_]; exact (by have hi_ := HI217.out; exact IsS42.up)⟩; have n2_ : Aside0 (Below w.heap.size w w40) := ⟨by rw [← hq_]; exact (by have ge_ := IsS42.ge HI217.out; exact tb)⟩; clear BK218 HI217 HB hq_; have BK218 := n0_; have HI217 := n1_; have HB := n2_; clear n0_ n1_ n2_)); have hnb41 := NB218_217.out; have hnc41 := NB217_218.out; have hcz42_0 : w40.cell? ⟨gb218, 0, none⟩ = some (.complex .f32 0 0) := (blk_cell BK218.out 0).trans rfl; have hcz42_1 : w40.cell? ⟨gb218, 1, none⟩ = some (.complex .f32 0 0) := (blk_cell BK218.out 1).trans rfl; have hcz42_2 : w40.cell? ⟨gb218, 2, none⟩ = some (.complex .f32 0 0) := (blk_cell BK218.out 2).trans rfl; have hcz42_3 : w40.cell? ⟨gb218, 3, none⟩ = some (.slice none 0 0) := (blk_cell BK218.out 3).trans rfl; have hfz42_0 := blk_frozen BK218.out 0; have hfz42_1 := blk_frozen BK218.out 1; have hfz42_2 := blk_frozen BK218.out 2; have hfz42_3 := blk_frozen BK218.out 3))
   refine bodyPost_ret (results_ct rfl _ _ gb218 42 #[.complex .f32 0 0, .complex .f32 0 0, .complex .f32 0 0, .slice none 0 0] (0, 0) _ rfl (by refine bu ?_; refine blk_put (cs := #[.complex .f32 0 0, .complex .f32 0 0, .complex .f32 0 0, .slice none 0 0]) ?_ 3 _ rfl; refine bu ?_; refine blk_put (cs := #[.complex .f32 0 0, .complex .f32 0 0, .complex .f32 0 0, .slice none 0 0]) ?_ 2 _ rfl; refine bu ?_; refine blk_put (cs := #[.complex .f32 0 0, .complex .f32 0 0, .complex .f32 0 0, .slice none 0 0]) ?_ 1 _ rfl; refine bu ?_; refine blk_put (cs := #[.complex .f32 0 0, .complex .f32 0 0, .complex .f32 0 0, .slice none 0 0]) ?_ 0 _ rfl; refine bu ?_; exact BK218.out) Try.underlying42 rfl (by kernel_rfl)) rfl ?_
   exact ⟨_, re_, by first | exact Kd.R_nil _ _ _ _ _ | exact Kd.N_nil _ _ _ _ _ | exact Kd.V_nil _ _ _ _ _ | exact Kd.Q_nil _ _ _ _ _ | exact Kd.S_nil _ _ _ _ _, by have ge_ := IsS42.ge HI217.out; exact tb⟩
 ·replace c5 := Bool.eq_false_iff.mpr c5
  subst c5
  have H1 : (some ((⟨0, 0⟩ : Cx), (⟨0, 0⟩ : Cx), (⟨0, 0⟩ : Cx), ([] : List (S66)), false)) = some (r1, r2, r3, r4, r5) := by rw [if_neg (show ¬ (false = true) by decide)] at H; exact H
  clear H
  have H := H1
  clear H1
  simp only [Option.some.injEq, Prod.mk.injEq] at H
  obtain ⟨rfl, rfl, rfl, rfl, rfl⟩ := H
  go_enter Try.func33, Try.ntmps33
  go_wp2_with (first | ((with_reducible refine gate_dst (N := 3) rfl ?_); refine box_event ?hg (N := 3) ?hd (cs := #[.complex .f32 a0_0.re a0_0.im, .complex .f32 a0_1.re a0_1.im, .complex .f32 a0_2.re a0_2.im, .slice A0_3 l0_3.length c0_3]) (t := 42) ?hr ?_; (case hd => rfl); (case hg => rfl); (case hr => first | (go_simp; done) | (go_simp; rfl)); intro gb217 hg w43 hbox hb; have n0_ := Aside0.mk (below_step tb hb); have n1_ := Aside0.mk (hbox); have n2_ := Aside0.mk ((by rw [hg]; exact (below_size tb) : w.heap.size ≤ gb217)); have n3_ := Aside0.mk ((by rw [hg]; exact (below_size tb) : w.heap.size ≤ gb217)); clear HB; have HB := n0_; have BK217 := n1_; have GW217 := n2_; have GE217 := n3_; clear n0_ n1_ n2_ n3_; clear hb hbox hg; have HI217 := Aside0.mk (show IsS42 w _ gb217 a0_0 a0_1 a0_2 l0_3 from ⟨_, _, BK217.out, (by first | exact GE217.out | exact GW217.out), HR0_3.out, HC0_3.out⟩)) | ((with_reducible refine gate_dst (N := 6) rfl ?_); refine box_event ?hg (N := 6) ?hd (cs := #[.complex .f32 0 0, .complex .f32 0 0, .complex .f32 0 0, .slice none 0 0]) (t := 42) ?hr ?_; (case hd => rfl); (case hg => rfl); (case hr => first | (go_simp; done) | (go_simp; rfl)); intro gb218 hg w44 hbox hb; have n0_ := Aside0.mk (IsS42.below (by have hi_ := HI217.out; exact IsS42.up) hb); have n1_ := Aside0.mk (below_step (by have ge_ := IsS42.ge HI217.out; exact tb) hb); have n2_ := Aside0.mk (hbox); have n3_ := Aside0.mk ((by rw [hg]; exact (below_size (by have ge_ := IsS42.ge HI217.out; exact tb)) : w.heap.size ≤ gb218)); have n4_ := Aside0.mk ((by rw [hg]; exact (below_size (by have ge_ := IsS42.ge HI217.out; exact tb)) : w.heap.size ≤ gb218)); have n5_ := Aside0.mk ((by rw [hg]; exact Nat.ne_of_lt (IsS42.lt (show IsS42 w _ gb217 a0_0 a0_1 a0_2 l0_3 from by have hi_ := HI217.out; exact IsS42.up)) : gb217 ≠ gb218)); have n6_ := Aside0.mk ((by rw [hg]; exact Nat.ne_of_gt (IsS42.lt (show IsS42 w _ gb217 a0_0 a0_1 a0_2 l0_3 from by have hi_ := HI217.out; exact IsS42.up)) : gb218 ≠ gb217)); clear HI217; clear HB; have HI217 := n0_; have HB := n1_; have BK218 := n2_; have GW218 := n3_; have GE218 := n4_; have NB217_218 := n5_; have NB218_217 := n6_; clear n0_ n1_ n2_ n3_ n4_ n5_ n6_; clear hb hbox hg) | ((with_reducible refine gate_callee (f := 90) rfl ?_); refine gx_ (some 11) Try.func90 #[.pointer (some ⟨gb217, 0, none⟩), .int .i64 a1] ?_; (with_reducible refine (impl_Feeder_has.calls k gb217 a0_0 a0_1 a0_2 l0_3 a1 false t220 t221 t222 w _ ?side1 ?side2 A4.out).mono ?_); (case side1 => have hi_ := HI217.out; exact IsS42.up); (case side2 => have ge_ := IsS42.ge HI217.out; exact tb); rintro e w45 ⟨rfl, hi, hb, hk⟩; refine ⟨_, rfl, ?_⟩; have n0_ := Aside0.mk (KeepBut.blk hk (g' := gb218) (o := .cells #[.complex .f32 0 0, .complex .f32 0 0, .complex .f32 0 0, .slice none 0 0] 42 (0, 0)) (bu BK218.out) NB218_217.out (by simp)); have n1_ := Aside0.mk (hb); have n2_ := Aside0.mk (hi); clear BK218; clear HB; clear HI217; have BK218 := n0_; have HB := n1_; have HI217 := n2_; clear n0_ n1_ n2_; (try clear hb); (try clear hb2); (try clear hk); (try clear hi); have hnb46 := NB218_217.out; have hnc46 := NB217_218.out; have hcz47_0 : w45.cell? ⟨gb218, 0, none⟩ = some (.complex .f32 0 0) := (blk_cell BK218.out 0).trans rfl; have hcz47_1 : w45.cell? ⟨gb218, 1, none⟩ = some (.complex .f32 0 0) := (blk_cell BK218.out 1).trans rfl; have hcz47_2 : w45.cell? ⟨gb218, 2, none⟩ = some (.complex .f32 0 0) := (blk_cell BK218.out 2).trans rfl; have hcz47_3 : w45.cell? ⟨gb218, 3, none⟩ = some (.slice none 0 0) := (blk_cell BK218.out 3).trans rfl; have hfz47_0 := blk_frozen BK218.out 0; have hfz47_1 := blk_frozen BK218.out 1; have hfz47_2 := blk_frozen BK218.out 2; have hfz47_3 := blk_frozen BK218.out 3))
  refine bodyPost_ret (results_ct rfl _ _ gb218 42 #[.complex .f32 0 0, .complex .f32 0 0, .complex .f32 0 0, .slice none 0 0] (0, 0) _ rfl (by refine bu ?_; refine blk_put (cs := #[.complex .f32 0 0, .complex .f32 0 0, .complex .f32 0 0, .slice none 0 0]) ?_ 3 _ rfl; refine bu ?_; refine blk_put (cs := #[.complex .f32 0 0, .complex .f32 0 0, .complex .f32 0 0, .slice none 0 0]) ?_ 2 _ rfl; refine bu ?_; refine blk_put (cs := #[.complex .f32 0 0, .complex .f32 0 0, .complex .f32 0 0, .slice none 0 0]) ?_ 1 _ rfl; refine bu ?_; refine blk_put (cs := #[.complex .f32 0 0, .complex .f32 0 0, .complex .f32 0 0, .slice none 0 0]) ?_ 0 _ rfl; refine bu ?_; exact BK218.out) Try.underlying42 rfl (by kernel_rfl)) rfl ?_
  exact ⟨_, re_, by first | exact Kd.R_nil _ _ _ _ _ | exact Kd.N_nil _ _ _ _ _ | exact Kd.V_nil _ _ _ _ _ | exact Kd.Q_nil _ _ _ _ _ | exact Kd.S_nil _ _ _ _ _, by have ge_ := IsS42.ge HI217.out; exact tb⟩

end Go.Proofs.Ytcgpomicgbmdlaa.PFnBanks
namespace Go.Proofs.Ytcgpomicgbmdlaa.PFnBanks
open Go.RowKit Go.Proofs.YtcgpomicgbmdlaaW.PrintWords Go.Proofs.YtcgpomicgbmdlaaW.PrintLast Go.Proofs.YtcgpomicgbmdlaaW.PrintMore
attribute [local go_sem] max2_int min2_int max_two min_two max_three min_three max_four min_four   -- for this text's walks alone
set_option linter.unusedVariables false
set_option linter.unusedSimpArgs false

/-! ### impl_same: function 82 -/
def impl_same.f (a0 : Int) (a1_0 : Cx) (a1_1 : Cx) (a1_2 : Cx) : Option (Cx × Cx × Cx) := some (a1_0, a1_1, a1_2)
set_option maxHeartbeats 8000000 in
set_option maxRecDepth 100000 in
theorem impl_same.calls (a0 : Int) (a1_0 : Cx) (a1_1 : Cx) (a1_2 : Cx) (r1 : Cx) (r2 : Cx) (r3 : Cx) (w : World) (h : impl_same.f a0 a1_0 a1_1 a1_2 = some (r1, r2, r3)) :
  Calls Try.prog 82 #[.int .i64 a0, .agg #[.complex .f32 a1_0.re a1_0.im, .complex .f32 a1_1.re a1_1.im, .complex .f32 a1_2.re a1_2.im]] w fun e w' => e = .returned (.agg #[.complex .f32 r1.re r1.im, .complex .f32 r2.re r2.im, .complex .f32 r3.re r3.im]) ∧ Below w.heap.size w w' := by
 have hu39 := Try.underlying39
 have HB := Aside0.mk (Below.refl w.heap.size w)
 have H : (some (a1_0, a1_1, a1_2)) = some (r1, r2, r3) := h
 clear h
 simp only [Option.some.injEq, Prod.mk.injEq] at H
 obtain ⟨rfl, rfl, rfl⟩ := H
 go_enter Try.func82, Try.ntmps82
 go_wp2_with (first | ((with_reducible refine gate_dst (N := 3) rfl ?_); refine box_event ?hg (N := 3) ?hd (cs := #[.complex .f32 a1_0.re a1_0.im, .complex .f32 a1_1.re a1_1.im, .complex .f32 a1_2.re a1_2.im]) (t := 39) ?hr ?_; (case hd => rfl); (case hg => rfl); (case hr => first | (go_simp; done) | (go_simp; rfl)); intro gb244 hg w3 hbox hb; have n0_ := Aside0.mk (below_step tb hb); have n1_ := Aside0.mk (hbox); have n2_ := Aside0.mk ((by rw [hg]; exact (below_size tb) : w.heap.size ≤ gb244)); have n3_ := Aside0.mk ((by rw [hg]; exact (below_size tb) : w.heap.size ≤ gb244)); clear HB; have HB := n0_; have BK244 := n1_; have GW244 := n2_; have GE244 := n3_; clear n0_ n1_ n2_ n3_; clear hb hbox hg) | ((with_reducible refine gate_dst (N := 4) rfl ?_); refine box_event ?hg (N := 4) ?hd (cs := #[.complex .f32 0 0, .complex .f32 0 0, .complex .f32 0 0]) (t := 39) ?hr ?_; (case hd => rfl); (case hg => rfl); (case hr => first | (go_simp; done) | (go_simp; rfl)); intro gb245 hg w4 hbox hb; have n0_ := Aside0.mk (blk_below (g := gb244) (o := .cells #[.complex .f32 a1_0.re a1_0.im, .complex .f32 a1_1.re a1_1.im, .complex .f32 a1_2.re a1_2.im] 39 (0, 0)) (bu BK244.out) hb); have n1_ := Aside0.mk (below_step tb hb); have n2_ := Aside0.mk (hbox); have n3_ := Aside0.mk ((by rw [hg]; exact (below_size tb) : w.heap.size ≤ gb245)); have n4_ := Aside0.mk ((by rw [hg]; exact (below_size tb) : w.heap.size ≤ gb245)); have n5_ := Aside0.mk ((by rw [hg]; exact Nat.ne_of_lt (blk_lt (g := gb244) (o := .cells #[.complex .f32 a1_0.re a1_0.im, .complex .f32 a1_1.re a1_1.im, .complex .f32 a1_2.re a1_2.im] 39 (0, 0)) (bu BK244.out)) : gb244 ≠ gb245)); have n6_ := Aside0.mk ((by rw [hg]; exact Nat.ne_of_gt (blk_lt (g := gb244) (o := .cells #[.complex .f32 a1_0.re a1_0.im, .complex .f32 a1_1.re a1_1.im, .complex .f32 a1_2.re a1_2.im] 39 (0, 0)) (bu BK244.out)) : gb245 ≠ gb244)); clear BK244; clear HB; have BK244 := n0_; have HB := n1_; have BK245 := n2_; have GW245 := n3_; have GE245 := n4_; have NB244_245 := n5_; have NB245_244 := n6_; clear n0_ n1_ n2_ n3_ n4_ n5_ n6_; clear hb hbox hg; have hnb5 := NB244_245.out; have hnc5 := NB245_244.out; have hcz6_0 : w4.cell? ⟨gb244, 0, none⟩ = some (.complex .f32 a1_0.re a1_0.im) := (blk_cell BK244.out 0).trans rfl; have hcz6_1 : w4.cell? ⟨gb244, 1, none⟩ = some (.complex .f32 a1_1.re a1_1.im) := (blk_cell BK244.out 1).trans rfl; have hcz6_2 : w4.cell? ⟨gb244, 2, none⟩ = some (.complex .f32 a1_2.re a1_2.im) := (blk_cell BK244.out 2).trans rfl; have hfz6_0 := blk_frozen BK244.out 0; have hfz6_1 := blk_frozen BK244.out 1; have hfz6_2 := blk_frozen BK244.out 2; have hcz7_0 : w4.cell? ⟨gb245, 0, none⟩ = some (.complex .f32 0 0) := (blk_cell BK245.out 0).trans rfl; have hcz7_1 : w4.cell? ⟨gb245, 1, none⟩ = some (.complex .f32 0 0) := (blk_cell BK245.out 1).trans rfl; have hcz7_2 : w4.cell? ⟨gb245, 2, none⟩ = some (.complex .f32 0 0) := (blk_cell BK245.out 2).trans rfl; have hfz7_0 := blk_frozen BK245.out 0; have hfz7_1 := blk_frozen BK245.out 1; have hfz7_2 := blk_frozen BK245.out 2))
 refine bodyPost_ret (results_cell_row rfl _ _ gb245 39 #[.complex .f32 a1_0.re a1_0.im, .complex .f32 a1_1.re a1_1.im, .complex .f32 a1_2.re a1_2.im] (0, 0) _ rfl (by refine bu ?_; refine blk_put (cs := #[.complex .f32 a1_0.re a1_0.im, .complex .f32 a1_1.re a1_1.im, .complex .f32 0 0]) ?_ 2 _ rfl; refine bu ?_; refine blk_put (cs := #[.complex .f32 a1_0.re a1_0.im, .complex .f32 0 0, .complex .f32 0 0]) ?_ 1 _ rfl; refine bu ?_; refine blk_put (cs := #[.complex .f32 0 0, .complex .f32 0 0, .complex .f32 0 0]) ?_ 0 _ rfl; refine bu ?_; exact BK245.out) Try.underlying39 rfl (by kernel_rfl)) rfl ?_
 exact ⟨re_, tb⟩

-- NOT PRINTED: function 167 (math_sqrt)

/-! ### math_Sqrt: function 146 -/
def math_Sqrt.f (a0 : Nat) : Option (Nat) := if sqok a0 = true then (some (sqv a0)) else (none)
set_option maxHeartbeats 8000000 in
set_option maxRecDepth 100000 in
theorem math_Sqrt.calls (a0 : Nat) (r : Nat) (w : World) (h : math_Sqrt.f a0 = some r) :
  Calls Try.prog 146 #[.float .f64 a0] w fun e w' => e = .returned (.float .f64 r) ∧ Drawn0 w w' := by
 have H : (if sqok a0 = true then (some (sqv a0)) else (none)) = some r := h
 clear h
 by_cases c2 : sqok a0 = true
 ·rw [if_pos c2] at H
  have c2b0 := eq_true c2
  have c2b1 : decide (sqok a0 = true) = true := decide_eq_true c2
  clear c2
  obtain rfl := Option.some.inj H
  go_enter Try.func146, Try.ntmps146
  go_wp2
  go_ret
  exact ⟨rs_, dr_⟩
 ·rw [if_neg c2] at H
  exact absurd H (by simp)

end Go.Proofs.Ytcgpomicgbmdlaa.PFnBanks
namespace Go.Proofs.Ytcgpomicgbmdlaa.PFnBanks
open Go.RowKit Go.Proofs.YtcgpomicgbmdlaaW.PrintWords Go.Proofs.YtcgpomicgbmdlaaW.PrintLast Go.Proofs.YtcgpomicgbmdlaaW.PrintMore
attribute [local go_sem] max2_int min2_int max_two min_two max_three min_three max_four min_four   -- for this text's walks alone
set_option linter.unusedVariables false
set_option linter.unusedSimpArgs false

/-! ### impl_LongOf: function 107 -/
def impl_LongOf.f (a0 : Cx) : Option (Nat) := (impl_power.f a0).bind fun t246 => ((math_Sqrt.f t246).bind fun t247 => (if cvok .f64 t247 .f32 = true then (some (cv .f64 t247 .f32)) else (none)))
set_option maxHeartbeats 8000000 in
set_option maxRecDepth 100000 in
theorem impl_LongOf.calls (a0 : Cx) (r : Nat) (w : World) (h : impl_LongOf.f a0 = some r) :
  Calls Try.prog 107 #[.complex .f32 a0.re a0.im] w fun e w' => e = .returned (.float .f32 r) ∧ Below w.heap.size w w' := by
 have HB := Aside0.mk (Below.refl w.heap.size w)
 have H : ((impl_power.f a0).bind fun t246 => ((math_Sqrt.f t246).bind fun t247 => (if cvok .f64 t247 .f32 = true then (some (cv .f64 t247 .f32)) else (none)))) = some r := h
 clear h
 replace H := Option.bind_eq_some_iff.mp H
 obtain ⟨t246, A20, H⟩ := H
 try dsimp only at H
 have A2 := Aside0.mk A20
 clear A20
 replace H := Option.bind_eq_some_iff.mp H
 obtain ⟨t247, A30, H⟩ := H
 try dsimp only at H
 have A3 := Aside0.mk A30
 clear A30
 by_cases c4 : cvok .f64 t247 .f32 = true
 ·rw [if_pos c4] at H
  have c4b0 := eq_true c4
  have c4b1 : decide (cvok .f64 t247 .f32 = true) = true := decide_eq_true c4
  clear c4
  obtain rfl := Option.some.inj H
  go_enter Try.func107, Try.ntmps107
  go_wp2_with (first | ((with_reducible refine gate_callee (f := 74) rfl ?_); refine gx_ (some 4) Try.func74 #[.complex .f32 a0.re a0.im] ?_; (with_reducible refine (impl_power.calls a0 t246 _ A2.out).mono ?_); rintro e w5 ⟨rfl, hb⟩; refine ⟨_, rfl, ?_⟩; have n0_ := Aside0.mk (below_step tb hb); clear HB; have HB := n0_; clear n0_; (try clear hb); (try clear hb2); (try clear hk); (try clear hi)) | ((with_reducible refine gate_callee (f := 146) rfl ?_); refine gx_ (some 5) Try.func146 #[.float .f64 t246] ?_; (with_reducible refine (math_Sqrt.calls t246 t247 _ A3.out).mono ?_); rintro e w' ⟨rfl, ⟨nd, rfl⟩⟩; refine ⟨_, rfl, ?_⟩))
  go_ret
  exact ⟨re_, tb⟩
 ·rw [if_neg c4] at H
  exact absurd H (by simp)

end Go.Proofs.Ytcgpomicgbmdlaa.PFnBanks
namespace Go.Proofs.Ytcgpomicgbmdlaa.PFnBanks
open Go.RowKit Go.Proofs.YtcgpomicgbmdlaaW.PrintWords Go.Proofs.YtcgpomicgbmdlaaW.PrintLast Go.Proofs.YtcgpomicgbmdlaaW.PrintMore
attribute [local go_sem] max2_int min2_int max_two min_two max_three min_three max_four min_four   -- for this text's walks alone
set_option linter.unusedVariables false
set_option linter.unusedSimpArgs false

/-! ### impl_Phases_longs: function 119 -/
def impl_Phases_longs.f (a0_0 : Cx) (a0_1 : Cx) (a0_2 : Cx) : Option (List Nat) := (impl_LongOf.f a0_0).bind fun t249 => ((impl_LongOf.f a0_1).bind fun t250 => ((impl_LongOf.f a0_2).bind fun t251 => (some (([t249, t250, t251] : List Nat)))))
def impl_Phases_longs.T1 : Bool × List (List Nat × List Nat) := (true, [([], []), ([0], [0]), ([1], [1]), ([], []), ([3], [3]), ([4, 2], [4]), ([], []), ([6], [6]), ([7, 5], [7]), ([2, 5, 8], [2, 5, 8]), ([9, 8, 0, 1, 2, 3, 4, 5, 6, 7, 8, 9], [9])])
def impl_Phases_longs.B1 : List Nat := [0, 1, 3, 0, 8, 31, 0, 64, 255, 511, 1023]
theorem impl_Phases_longs.tab1 : rtab .any (opsOf Try.f119 1) = impl_Phases_longs.T1 := by kernel_rfl
theorem impl_Phases_longs.bits1 : waitsOk impl_Phases_longs.T1.2 impl_Phases_longs.B1 = true := by kernel_rfl
set_option maxHeartbeats 8000000 in
set_option maxRecDepth 100000 in
theorem impl_Phases_longs.calls (a0_0 : Cx) (a0_1 : Cx) (a0_2 : Cx) (r : List Nat) (w : World) (h : impl_Phases_longs.f a0_0 a0_1 a0_2 = some r) :
  Calls Try.prog 119 #[.agg #[.complex .f32 a0_0.re a0_0.im, .complex .f32 a0_1.re a0_1.im, .complex .f32 a0_2.re a0_2.im]] w fun e w' => ∃ v0_ : Value, e = .returned (v0_) ∧ Kd.R Kd.f32 34 w' w.heap.size (fun _ => True) v0_ r ∧ Below w.heap.size w w' := by
 have hu39 := Try.underlying39
 have HB := Aside0.mk (Below.refl w.heap.size w)
 have H : ((impl_LongOf.f a0_0).bind fun t249 => ((impl_LongOf.f a0_1).bind fun t250 => ((impl_LongOf.f a0_2).bind fun t251 => (some (([t249, t250, t251] : List Nat)))))) = some r := h
 clear h
 replace H := Option.bind_eq_some_iff.mp H
 obtain ⟨t249, A20, H⟩ := H
 try dsimp only at H
 have A2 := Aside0.mk A20
 clear A20
 replace H := Option.bind_eq_some_iff.mp H
 obtain ⟨t250, A30, H⟩ := H
 try dsimp only at H
 have A3 := Aside0.mk A30
 clear A30
 replace H := Option.bind_eq_some_iff.mp H
 obtain ⟨t251, A40, H⟩ := H
 try dsimp only at H
 have A4 := Aside0.mk A40
 clear A40
 obtain ⟨y252, hy252⟩ : ∃ y_ : List Nat, y_ = (([t249, t250, t251] : List Nat)) := ⟨_, rfl⟩
 replace H : (some y252) = some r := by first | (rw [hy252]; with_reducible exact H) | (have H2_ := (Option.bind_some _ _).symm.trans H; rw [hy252]; with_reducible exact H2_) | (have H2_ := (Option.bind_some _ _).symm.trans H; with_reducible exact H2_) | with_reducible exact H | (rw [hy252]; exact H) | exact H
 have Ny252 := Aside0.mk hy252
 clear hy252
 obtain rfl := Option.some.inj H
 go_enter Try.func119, Try.ntmps119
 try go_wp2_with (first | ((with_reducible refine gate_dst (N := 1) rfl ?_); refine box_event ?hg (N := 1) ?hd (cs := #[.complex .f32 a0_0.re a0_0.im, .complex .f32 a0_1.re a0_1.im, .complex .f32 a0_2.re a0_2.im]) (t := 39) ?hr ?_; (case hd => rfl); (case hg => rfl); (case hr => first | (go_simp; done) | (go_simp; rfl)); intro gb248 hg w5 hbox hb; have n0_ := Aside0.mk (below_step tb hb); have n1_ := Aside0.mk (hbox); have n2_ := Aside0.mk ((by rw [hg]; exact (below_size tb) : w.heap.size ≤ gb248)); have n3_ := Aside0.mk ((by rw [hg]; exact (below_size tb) : w.heap.size ≤ gb248)); clear HB; have HB := n0_; have BK248 := n1_; have GW248 := n2_; have GE248 := n3_; clear n0_ n1_ n2_ n3_; clear hb hbox hg))
 have n0_ := Aside0.mk (blk_drew BK248.out)
 have n1_ := Aside0.mk (below_drew1 HB.out)
 clear BK248
 clear HB
 have BK248 := n0_
 have HB := n1_
 clear n0_ n1_
 refine start_ (n := 11) (S := fun w' => w'.cell? ⟨gb248, 0, none⟩ = some (.complex .f32 a0_0.re a0_0.im) ∧ w'.cell? ⟨gb248, 1, none⟩ = some (.complex .f32 a0_1.re a0_1.im) ∧ w'.cell? ⟨gb248, 2, none⟩ = some (.complex .f32 a0_2.re a0_2.im)) (ds := []) #[false, false, false, false, false, false, false, false, false, false, false] (by kernel_rfl) rfl rfl ⟨(blk_cell BK248.out 0).trans rfl, (blk_cell BK248.out 1).trans rfl, (blk_cell BK248.out 2).trans rfl⟩ (fun hHeld => ?_); refine with_tabW impl_Phases_longs.tab1 impl_Phases_longs.bits1 (fun HT_ HW_ => ?_)
 generalize w5.drew = w6 at BK248 HB hHeld ⊢
 refine pure_ (i := 0) (N := some 3) (v := ?_) (a' := ?_) #[true, false, false, false, false, false, false, false, false, false, false] rfl rfl (any_of HT_.out (by kernel_rfl)) (fun _ _ _ h => h) (Or.inl ⟨by rfl, ?_⟩) ?_ ?_
 rotate_left
 ·intro w'
  go_simp
  with_reducible rfl
 rotate_left
 ·refine ps_ ?_
  rfl
 refine pure_ (i := 3) (N := some 6) (v := ?_) (a' := ?_) #[true, false, false, true, false, false, false, false, false, false, false] rfl rfl (any_of HT_.out (by kernel_rfl)) (fun _ _ _ h => h) (Or.inl ⟨by rfl, ?_⟩) ?_ ?_
 rotate_left
 ·intro w'
  go_simp
  with_reducible rfl
 rotate_left
 ·refine ps_ ?_
  rfl
 refine pure_ (i := 6) (N := some 9) (v := ?_) (a' := ?_) #[true, false, false, true, false, false, true, false, false, false, false] rfl rfl (any_of HT_.out (by kernel_rfl)) (fun _ _ _ h => h) (Or.inl ⟨by rfl, ?_⟩) ?_ ?_
 rotate_left
 ·intro w'
  go_simp
  with_reducible rfl
 rotate_left
 ·refine ps_ ?_
  rfl
 refine take_ (i := 1) (N := some 4) (v := ?_) (a' := ?_) #[true, true, false, true, false, false, true, false, false, false, false] rfl rfl (take_ofW HT_.out HW_.out (by kernel_rfl)) (fun _ _ _ h => h) (Or.inl ⟨by rfl, ?_⟩) hHeld ?_ ?_
 rotate_left
 ·rintro w' ⟨s0, s1, s2⟩
  go_simp
  with_reducible rfl
 rotate_left
 ·refine ps_ ?_
  rfl
 refine take_ (i := 4) (N := some 7) (v := ?_) (a' := ?_) #[true, true, false, true, true, false, true, false, false, false, false] rfl rfl (take_ofW HT_.out HW_.out (by kernel_rfl)) (fun _ _ _ h => h) (Or.inl ⟨by rfl, ?_⟩) hHeld ?_ ?_
 rotate_left
 ·rintro w' ⟨s0, s1, s2⟩
  go_simp
  with_reducible rfl
 rotate_left
 ·refine ps_ ?_
  rfl
 refine take_ (i := 7) (N := some 10) (v := ?_) (a' := ?_) #[true, true, false, true, true, false, true, true, false, false, false] rfl rfl (take_ofW HT_.out HW_.out (by kernel_rfl)) (fun _ _ _ h => h) (Or.inl ⟨by rfl, ?_⟩) hHeld ?_ ?_
 rotate_left
 ·rintro w' ⟨s0, s1, s2⟩
  go_simp
  with_reducible rfl
 rotate_left
 ·refine ps_ ?_
  rfl
 refine one_ (i := 2) (N := some 5) #[true, true, true, true, true, false, true, true, false, false, false] rfl rfl (one_of HT_.out (by kernel_rfl)) (by decide) (fun K hK => ?_)
 refine goes_ Try.func107 (by kernel_rfl) rfl #[.complex .f32 a0_0.re a0_0.im] (by rfl) rfl rfl mp_ ?_
 with_reducible refine (impl_LongOf.calls a0_0 t249 _ A2.out).mono ?_
 rintro e w7 ⟨rfl, hb⟩
 refine ⟨_, rfl, ?_⟩
 have n0_ := Aside0.mk (blk_below (g := gb248) (o := .cells #[.complex .f32 a0_0.re a0_0.im, .complex .f32 a0_1.re a0_1.im, .complex .f32 a0_2.re a0_2.im] 39 (0, 0)) (bu BK248.out) hb)
 have n1_ := Aside0.mk (below_step tb hb)
 clear BK248
 clear HB
 have BK248 := n0_
 have HB := n1_
 clear n0_ n1_
 (try clear hb)
 (try clear hb2)
 (try clear hk)
 (try clear hi)
 refine hK.out _ _ ⟨(blk_cell BK248.out 0).trans rfl, (blk_cell BK248.out 1).trans rfl, (blk_cell BK248.out 2).trans rfl⟩ (fun hHeld => ?_)
 clear hK K
 refine norm_ (a' := ?_) ?_ ?_
 rotate_left
 ·show Act.put _ (some 5) _ = _
  refine ps_ ?_
  rfl
 refine one_ (i := 5) (N := some 8) #[true, true, true, true, true, true, true, true, false, false, false] rfl rfl (one_of HT_.out (by kernel_rfl)) (by decide) (fun K hK => ?_)
 refine goes_ Try.func107 (by kernel_rfl) rfl #[.complex .f32 a0_1.re a0_1.im] (by rfl) rfl rfl mp_ ?_
 with_reducible refine (impl_LongOf.calls a0_1 t250 _ A3.out).mono ?_
 rintro e w8 ⟨rfl, hb⟩
 refine ⟨_, rfl, ?_⟩
 have n0_ := Aside0.mk (blk_below (g := gb248) (o := .cells #[.complex .f32 a0_0.re a0_0.im, .complex .f32 a0_1.re a0_1.im, .complex .f32 a0_2.re a0_2.im] 39 (0, 0)) (bu BK248.out) hb)
 have n1_ := Aside0.mk (below_step tb hb)
 clear BK248
 clear HB
 have BK248 := n0_
 have HB := n1_
 clear n0_ n1_
 (try clear hb)
 (try clear hb2)
 (try clear hk)
 (try clear hi)
 refine hK.out _ _ ⟨(blk_cell BK248.out 0).trans rfl, (blk_cell BK248.out 1).trans rfl, (blk_cell BK248.out 2).trans rfl⟩ (fun hHeld => ?_)
 clear hK K
 refine norm_ (a' := ?_) ?_ ?_
 rotate_left
 ·show Act.put _ (some 8) _ = _
  refine ps_ ?_
  rfl
 refine one_ (i := 8) (N := some 11) #[true, true, true, true, true, true, true, true, true, false, false] rfl rfl (one_of HT_.out (by kernel_rfl)) (by decide) (fun K hK => ?_)
 refine goes_ Try.func107 (by kernel_rfl) rfl #[.complex .f32 a0_2.re a0_2.im] (by rfl) rfl rfl mp_ ?_
 with_reducible refine (impl_LongOf.calls a0_2 t251 _ A4.out).mono ?_
 rintro e w9 ⟨rfl, hb⟩
 refine ⟨_, rfl, ?_⟩
 have n0_ := Aside0.mk (blk_below (g := gb248) (o := .cells #[.complex .f32 a0_0.re a0_0.im, .complex .f32 a0_1.re a0_1.im, .complex .f32 a0_2.re a0_2.im] 39 (0, 0)) (bu BK248.out) hb)
 have n1_ := Aside0.mk (below_step tb hb)
 clear BK248
 clear HB
 have BK248 := n0_
 have HB := n1_
 clear n0_ n1_
 (try clear hb)
 (try clear hb2)
 (try clear hk)
 (try clear hi)
 refine hK.out _ _ ⟨(blk_cell BK248.out 0).trans rfl, (blk_cell BK248.out 1).trans rfl, (blk_cell BK248.out 2).trans rfl⟩ (fun hHeld => ?_)
 clear hK K
 refine norm_ (a' := ?_) ?_ ?_
 rotate_left
 ·show Act.put _ (some 11) _ = _
  refine ps_ ?_
  rfl
 refine one_ (i := 9) (N := some 12) #[true, true, true, true, true, true, true, true, true, true, false] rfl rfl (one_of HT_.out (by kernel_rfl)) (by decide) (fun K hK => ?_)
 refine Kd.R_lit_step Kd.f32 _ 34 ?hg (N := 12) ?hd (xs := ([t249, t250, t251] : List Nat)) (inner := [.float .f32 t249, .float .f32 t250, .float .f32 t251]) (ok := fun _ => True) (okp := fun _ => True) ?hr ?hp (fun _ hk => hk) trivial (Below.refl _ _) (Nat.le_refl _) (by simp) ?_; (case hd => rfl); (case hg => rfl); (case hr => first | (go_simp; done) | (go_simp; rfl)); (case hp => exact (Reps.one (show Kd.M Kd.f32 _ _ _ t249 [.float .f32 t249] from rfl) (Reps.one (show Kd.M Kd.f32 _ _ _ t250 [.float .f32 t250] from rfl) (Reps.one (show Kd.M Kd.f32 _ _ _ t251 [.float .f32 t251] from rfl) (Reps.none _ _)))))
 intro v253 w10 ho11 hb hg_ hnew_
 clear hg_ hnew_
 (first | rw [← Ny252.out] at ho11 | (simp only [Int.reduceToNat] at ho11; rw [← Ny252.out] at ho11))
 have n0_ := Aside0.mk (Kd.R_lower ho11 (below_size tb))
 have n1_ := Aside0.mk (blk_below (g := gb248) (o := .cells #[.complex .f32 a0_0.re a0_0.im, .complex .f32 a0_1.re a0_1.im, .complex .f32 a0_2.re a0_2.im] 39 (0, 0)) (bu BK248.out) hb)
 have n2_ := Aside0.mk (below_step tb hb)
 clear BK248
 clear HB
 have HO254 := n0_
 have BK248 := n1_
 have HB := n2_
 clear n0_ n1_ n2_
 clear hb ho11
 refine hK.out _ _ ⟨(blk_cell BK248.out 0).trans rfl, (blk_cell BK248.out 1).trans rfl, (blk_cell BK248.out 2).trans rfl⟩ (fun hHeld => ?_)
 clear hK K
 refine norm_ (a' := ?_) ?_ ?_
 rotate_left
 ·show Act.put _ (some 12) _ = _
  refine ps_ ?_
  rfl
 refine pure_ (i := 10) (N := some 2) (v := ?_) (a' := ?_) #[true, true, true, true, true, true, true, true, true, true, true] rfl rfl (any_of HT_.out (by kernel_rfl)) (fun _ _ _ h => h) (Or.inl ⟨by rfl, ?_⟩) ?_ ?_
 rotate_left
 ·intro w'
  go_simp
  with_reducible rfl
 rotate_left
 ·refine ps_ ?_
  rfl
 refine done_ (done_of HT_.out (by kernel_rfl)) ?_
 try go_wp2
 go_ret
 exact ⟨_, re_, by refine ru ?_; exact HO254.out, tb⟩

end Go.Proofs.Ytcgpomicgbmdlaa.PFnBanks
namespace Go.Proofs.Ytcgpomicgbmdlaa.PFnBanks
open Go.RowKit Go.Proofs.YtcgpomicgbmdlaaW.PrintWords Go.Proofs.YtcgpomicgbmdlaaW.PrintLast Go.Proofs.YtcgpomicgbmdlaaW.PrintMore
attribute [local go_sem] max2_int min2_int max_two min_two max_three min_three max_four min_four   -- for this text's walks alone
set_option linter.unusedVariables false
set_option linter.unusedSimpArgs false

/-! ### impl_isNaN: function 139 -/
def impl_isNaN.f (a0 : Nat) : Option (Bool) := some (fne .f32 a0 a0)
set_option maxHeartbeats 8000000 in
set_option maxRecDepth 100000 in
theorem impl_isNaN.calls (a0 : Nat) (r : Bool) (w : World) (h : impl_isNaN.f a0 = some r) :
  Calls Try.prog 139 #[.float .f32 a0] w fun e w' => e = .returned (.bool r) ∧ Drawn0 w w' := by
 have H : (some (fne .f32 a0 a0)) = some r := h
 clear h
 obtain rfl := Option.some.inj H
 go_enter Try.func139, Try.ntmps139
 go_wp2
 go_ret
 exact ⟨rs_, dr_⟩

end Go.Proofs.Ytcgpomicgbmdlaa.PFnBanks
namespace Go.Proofs.Ytcgpomicgbmdlaa.PFnBanks
open Go.RowKit Go.Proofs.YtcgpomicgbmdlaaW.PrintWords Go.Proofs.YtcgpomicgbmdlaaW.PrintLast Go.Proofs.YtcgpomicgbmdlaaW.PrintMore
attribute [local go_sem] max2_int min2_int max_two min_two max_three min_three max_four min_four   -- for this text's walks alone
set_option linter.unusedVariables false
set_option linter.unusedSimpArgs false

/-! ### impl_lowest: function 91 -/
mutual
def impl_lowest.l0 : Nat → Int → Nat → List (S39) → Int → Int → Option (Int × Nat × Bool)
 | 0, _, _, _, _, _ => none
 | k + 1, x5, x6, x11, x12, x13 => if x13 < x12 then (if 0 ≤ x13 then (if x13 < (x11.length : Int) then ((impl_Phases_longs.f ((rd_T39 x11 x13).f0) ((rd_T39 x11 x13).f1) ((rd_T39 x11 x13).f2)).bind fun t257 => (impl_lowest.l1 k x5 x6 x13 x11 x12 x13 t257 (t257.length : Int) 0)) else (none)) else (none)) else (if x5 < 0 then (some (0, 0, false)) else (some (x5, x6, true)))
def impl_lowest.l1 : Nat → Int → Nat → Int → List (S39) → Int → Int → List Nat → Int → Int → Option (Int × Nat × Bool)
 | 0, _, _, _, _, _, _, _, _, _ => none
 | k + 1, x5, x6, x7, x11, x12, x13, x19, x20, x21 => if x21 < x20 then (if 0 ≤ x21 then (if x21 < (x19.length : Int) then ((impl_isNaN.f (rdOf (0 : Nat) x19 x21)).bind fun t261 => (if t261 = true then (impl_lowest.l1 k x5 x6 x7 x11 x12 x13 x19 x20 (wrap64 (x21 + 1))) else (if x5 < 0 then (impl_lowest.l1 k x7 (rdOf (0 : Nat) x19 x21) x7 x11 x12 x13 x19 x20 (wrap64 (x21 + 1))) else (if (flt .f32 (rdOf (0 : Nat) x19 x21) x6) = true then (impl_lowest.l1 k x7 (rdOf (0 : Nat) x19 x21) x7 x11 x12 x13 x19 x20 (wrap64 (x21 + 1))) else (impl_lowest.l1 k x5 x6 x7 x11 x12 x13 x19 x20 (wrap64 (x21 + 1))))))) else (none)) else (none)) else (impl_lowest.l0 k x5 x6 x11 x12 (wrap64 (x13 + 1)))
end
def impl_lowest.f (k : Nat) (l0 : List (S39)) : Option (Int × Nat × Bool) := impl_lowest.l0 k (-1) 0 l0 (l0.length : Int) 0
theorem impl_lowest.mono_l : ∀ k, (∀ y0 y1 y2 y3 y4, LeO (impl_lowest.l0 k y0 y1 y2 y3 y4) (impl_lowest.l0 (k + 1) y0 y1 y2 y3 y4)) ∧ (∀ y0 y1 y2 y3 y4 y5 y6 y7 y8, LeO (impl_lowest.l1 k y0 y1 y2 y3 y4 y5 y6 y7 y8) (impl_lowest.l1 (k + 1) y0 y1 y2 y3 y4 y5 y6 y7 y8))
 | 0 => ⟨fun _ _ _ _ _ r h => by simp [impl_lowest.l0] at h, fun _ _ _ _ _ _ _ _ _ r h => by simp [impl_lowest.l1] at h⟩
 | k + 1 => by
  obtain ⟨ih0, ih1⟩ := impl_lowest.mono_l k
  refine ⟨?_, ?_⟩
  ·intro y0 y1 y2 y3 y4
   unfold impl_lowest.l0
   repeat' first
   | (with_reducible exact ih0 _ _ _ _ _)
   | (with_reducible exact ih1 _ _ _ _ _ _ _ _ _)
   | (with_reducible exact LeO.refl _)
   | (with_reducible exact LeO.none _)
   | (with_reducible refine LeO.ite ?_ ?_)
   | (with_reducible refine LeO.bind ?_ (fun _ => ?_))
   | exact ih0 _ _ _ _ _
   | exact ih1 _ _ _ _ _ _ _ _ _
   | exact LeO.none _
   | refine LeO.ite ?_ ?_
   | refine LeO.bind ?_ (fun _ => ?_)
  ·intro y0 y1 y2 y3 y4 y5 y6 y7 y8
   unfold impl_lowest.l1
   repeat' first
   | (with_reducible exact ih0 _ _ _ _ _)
   | (with_reducible exact ih1 _ _ _ _ _ _ _ _ _)
   | (with_reducible exact LeO.refl _)
   | (with_reducible exact LeO.none _)
   | (with_reducible refine LeO.ite ?_ ?_)
   | (with_reducible refine LeO.bind ?_ (fun _ => ?_))
   | exact ih0 _ _ _ _ _
   | exact ih1 _ _ _ _ _ _ _ _ _
   | exact LeO.none _
   | refine LeO.ite ?_ ?_
   | refine LeO.bind ?_ (fun _ => ?_)
theorem impl_lowest.mono : ∀ a0 k, LeO (impl_lowest.f k a0) (impl_lowest.f (k + 1) a0) := by
 intro a0 k
 obtain ⟨ih0, ih1⟩ := impl_lowest.mono_l k
 unfold impl_lowest.f
 repeat' first
   | (with_reducible exact ih0 _ _ _ _ _)
   | (with_reducible exact ih1 _ _ _ _ _ _ _ _ _)
   | (with_reducible exact LeO.refl _)
   | (with_reducible exact LeO.none _)
   | (with_reducible refine LeO.ite ?_ ?_)
   | (with_reducible refine LeO.bind ?_ (fun _ => ?_))
   | exact ih0 _ _ _ _ _
   | exact ih1 _ _ _ _ _ _ _ _ _
   | exact LeO.none _
   | refine LeO.ite ?_ ?_
   | refine LeO.bind ?_ (fun _ => ?_)
set_option maxHeartbeats 8000000 in
set_option maxRecDepth 100000 in
theorem impl_lowest.calls (k : Nat) (A0 : Option Addr) (c0 : Nat) (l0 : List (S39)) (r1 : Int) (r2 : Nat) (r3 : Bool) (w : World) (hr0 : Kd.C k39 w A0 l0.length l0) (hc0 : l0.length ≤ c0) (h : impl_lowest.f k l0 = some (r1, r2, r3)) :
  Calls Try.prog 91 #[.slice A0 l0.length c0] w fun e w' => e = .returned (.tuple #[.int .i64 r1, .float .f32 r2, .bool r3]) ∧ Below w.heap.size w w' := by
 have hu39 := Try.underlying39
 have HR0 := Aside0.mk hr0
 have HC0 := Aside0.mk hc0
 clear hr0 hc0
 have HB := Aside0.mk (Below.refl w.heap.size w)
 have H : (impl_lowest.l0 k (-1) 0 l0 (l0.length : Int) 0) = some (r1, r2, r3) := h
 clear h
 have H' := Aside0.mk H
 clear H
 go_enter Try.func91, Try.ntmps91
 go_wp2
 go_loopg [5, 6, 13] k (fun kq v5 v6 v13 w' => ∃ (x5_1 : Int) (x6_1 : Nat) (x13_1 : Int), v5 = .int .i64 x5_1 ∧ v6 = .float .f32 x6_1 ∧ v13 = .int .i64 x13_1 ∧ Aside0 (impl_lowest.l0 kq x5_1 x6_1 l0 (l0.length : Int) x13_1 = some (r1, r2, r3)) ∧ Aside0 (kq ≤ k) ∧ Aside0 (Below w.heap.size w w'))
 case atStart => exact ⟨((-1)), (0), (0), rs_, rs_, rs_, H', ⟨Nat.le_refl _⟩, ⟨tb⟩⟩
 case round =>
  clear H'
  obtain ⟨x5_1, x6_1, x13_1, rfl, rfl, rfl, HA, HK1, HB⟩ := hrel
  cases gk with
  | zero => exact absurd HA.out (by simp [impl_lowest.l0])
  | succ k1 =>
   have H := HA.out
   clear HA
   simp only [impl_lowest.l0] at H
   by_cases c2 : x13_1 < (l0.length : Int)
   ·rw [if_pos c2] at H
    have c2b0 : decide (x13_1 < (l0.length : Int)) = true := decide_eq_true c2
    clear c2
    by_cases c3 : 0 ≤ x13_1
    ·rw [if_pos c3] at H
     have c3b0 : decide (0 ≤ x13_1) = true := decide_eq_true c3
     clear c3
     by_cases c4 : x13_1 < (l0.length : Int)
     ·rw [if_pos c4] at H
      have c4b0 : decide (x13_1 < (l0.length : Int)) = true := decide_eq_true c4
      clear c4
      replace H := Option.bind_eq_some_iff.mp H
      obtain ⟨t257, A50, H⟩ := H
      try dsimp only at H
      have A5 := Aside0.mk A50
      clear A50
      have H' := Aside0.mk H
      clear H
      have p255 : 0 ≤ (x13_1 : Int) := of_decide_eq_true (by first | (with_reducible assumption) | assumption)
      have q255 : x13_1 < (l0.length : Int) := of_decide_eq_true (by first | (with_reducible assumption) | assumption)
      obtain ⟨ad255, e255, hx255_0, hx255_1, hx255_2⟩ := at_T39 HR0.out x13_1 p255 q255
      cases e255
      replace hx255_0 := (HB.out.cell (World.block_lt_of_cell? w _ hx255_0)).trans hx255_0
      replace hx255_1 := (HB.out.cell (World.block_lt_of_cell? w _ hx255_1)).trans hx255_1
      replace hx255_2 := (HB.out.cell (World.block_lt_of_cell? w _ hx255_2)).trans hx255_2
      replace p255 := eq_true p255
      replace q255 := eq_true q255
      go_wp2_with (first | ((with_reducible refine gate_dst (N := 8) rfl ?_); refine box_event ?hg (N := 8) ?hd (cs := #[.complex .f32 0 0, .complex .f32 0 0, .complex .f32 0 0]) (t := 39) ?hr ?_; (case hd => rfl); (case hg => rfl); (case hr => first | (go_simp; done) | (go_simp; rfl)); intro gb256 hg w6 hbox hb; have n0_ := Aside0.mk (below_step tb hb); have n1_ := Aside0.mk (hbox); have n2_ := Aside0.mk ((by rw [hg]; exact (below_size tb) : w.heap.size ≤ gb256)); have n3_ := Aside0.mk ((by rw [hg]; exact (below_size tb) : w.heap.size ≤ gb256)); clear HB; have HB := n0_; have BK256 := n1_; have GW256 := n2_; have GE256 := n3_; clear n0_ n1_ n2_ n3_; clear hb hbox hg; have hcz7_0 : w6.cell? ⟨gb256, 0, none⟩ = some (.complex .f32 0 0) := (blk_cell BK256.out 0).trans rfl; have hcz7_1 : w6.cell? ⟨gb256, 1, none⟩ = some (.complex .f32 0 0) := (blk_cell BK256.out 1).trans rfl; have hcz7_2 : w6.cell? ⟨gb256, 2, none⟩ = some (.complex .f32 0 0) := (blk_cell BK256.out 2).trans rfl; have hfz7_0 := blk_frozen BK256.out 0; have hfz7_1 := blk_frozen BK256.out 1; have hfz7_2 := blk_frozen BK256.out 2) | ((with_reducible refine gate_callee (f := 119) rfl ?_); refine gx_ (some 19) Try.func119 #[.agg #[.complex .f32 (((rd_T39 l0 x13_1).f0).re) (((rd_T39 l0 x13_1).f0).im), .complex .f32 (((rd_T39 l0 x13_1).f1).re) (((rd_T39 l0 x13_1).f1).im), .complex .f32 (((rd_T39 l0 x13_1).f2).re) (((rd_T39 l0 x13_1).f2).im)]] ?_; (with_reducible refine (impl_Phases_longs.calls ((rd_T39 l0 x13_1).f0) ((rd_T39 l0 x13_1).f1) ((rd_T39 l0 x13_1).f2) t257 _ A5.out).mono ?_); rintro e w8 ⟨v258, rfl, ho0, hb⟩; refine ⟨_, rfl, ?_⟩; have n0_ := Aside0.mk (Kd.R_lower ho0 (below_size tb)); have n1_ := Aside0.mk (blk_below (g := gb256) (o := .cells #[.complex .f32 (((rd_T39 l0 x13_1).f0).re) (((rd_T39 l0 x13_1).f0).im), .complex .f32 (((rd_T39 l0 x13_1).f1).re) (((rd_T39 l0 x13_1).f1).im), .complex .f32 (((rd_T39 l0 x13_1).f2).re) (((rd_T39 l0 x13_1).f2).im)] 39 (0, 0)) (by refine bu ?_; refine blk_put (cs := #[.complex .f32 (((rd_T39 l0 x13_1).f0).re) (((rd_T39 l0 x13_1).f0).im), .complex .f32 (((rd_T39 l0 x13_1).f1).re) (((rd_T39 l0 x13_1).f1).im), .complex .f32 0 0]) ?_ 2 _ rfl; refine bu ?_; refine blk_put (cs := #[.complex .f32 (((rd_T39 l0 x13_1).f0).re) (((rd_T39 l0 x13_1).f0).im), .complex .f32 0 0, .complex .f32 0 0]) ?_ 1 _ rfl; refine bu ?_; refine blk_put (cs := #[.complex .f32 0 0, .complex .f32 0 0, .complex .f32 0 0]) ?_ 0 _ rfl; refine bu ?_; exact BK256.out) hb); have n2_ := Aside0.mk (below_step tb hb); clear BK256; clear HB; have HO259 := n0_; have BK256 := n1_; have HB := n2_; clear n0_ n1_ n2_; (try clear hb); (try clear hb2); (try clear hk); (try clear hi); (try clear ho0); obtain ⟨Ao9, co9, eo9⟩ := Kd.R_slice HO259.out; subst eo9))
      go_loopg [5, 6, 21] k1 (fun kq v5 v6 v21 w' => ∃ (x5_2 : Int) (x6_2 : Nat) (x21_2 : Int), v5 = .int .i64 x5_2 ∧ v6 = .float .f32 x6_2 ∧ v21 = .int .i64 x21_2 ∧ Aside0 (impl_lowest.l1 kq x5_2 x6_2 x13_1 l0 (l0.length : Int) x13_1 t257 (t257.length : Int) x21_2 = some (r1, r2, r3)) ∧ Aside0 (kq ≤ k1) ∧ Aside0 (Kd.R Kd.f32 34 w' w.heap.size (fun _ => True) (.slice Ao9 t257.length co9) t257) ∧ Aside0 (w'.heap[gb256]? = some (.cells #[.complex .f32 (((rd_T39 l0 x13_1).f0).re) (((rd_T39 l0 x13_1).f0).im), .complex .f32 (((rd_T39 l0 x13_1).f1).re) (((rd_T39 l0 x13_1).f1).im), .complex .f32 (((rd_T39 l0 x13_1).f2).re) (((rd_T39 l0 x13_1).f2).im)] 39 (0, 0))) ∧ Aside0 (Below w.heap.size w w'))
      case atStart => exact ⟨(x5_1), (x6_1), (0), rs_, rs_, rs_, H', ⟨Nat.le_refl _⟩, ⟨by refine ru ?_; exact HO259.out⟩, ⟨by refine bu ?_; exact BK256.out⟩, ⟨tb⟩⟩
      case round =>
       clear H'
       try clear c1
       try clear c2
       try clear c2b0
       try clear p2
       try clear q2
       try clear hx2
       try clear c3
       try clear c3b0
       try clear c4
       try clear c4b0
       try clear c9
       try clear hcz7_0
       try clear hcz7_1
       try clear hcz7_2
       try clear hfz7_0
       try clear hfz7_1
       try clear hfz7_2
       try clear hx255_0
       try clear hx255_1
       try clear hx255_2
       try clear p255
       try clear q255
       obtain ⟨x5_2, x6_2, x21_2, rfl, rfl, rfl, HA, HK2, HO_19, BK256, HB⟩ := hrel
       cases gk with
       | zero => exact absurd HA.out (by simp [impl_lowest.l1])
       | succ k2 =>
        have H := HA.out
        clear HA
        simp only [impl_lowest.l1] at H
        by_cases c10 : x21_2 < (t257.length : Int)
        ·rw [if_pos c10] at H
         have c10b0 : decide (x21_2 < (t257.length : Int)) = true := decide_eq_true c10
         clear c10
         by_cases c11 : 0 ≤ x21_2
         ·rw [if_pos c11] at H
          have c11b0 : decide (0 ≤ x21_2) = true := decide_eq_true c11
          clear c11
          by_cases c12 : x21_2 < (t257.length : Int)
          ·rw [if_pos c12] at H
           have c12b0 : decide (x21_2 < (t257.length : Int)) = true := decide_eq_true c12
           clear c12
           replace H := Option.bind_eq_some_iff.mp H
           obtain ⟨t261, A130, H⟩ := H
           try dsimp only at H
           have A13 := Aside0.mk A130
           clear A130
           by_cases c14 : t261 = true
           ·subst c14
            rw [if_pos rfl] at H; try dsimp only at H
            have H' := Aside0.mk H
            clear H
            have p260 : 0 ≤ (x21_2 : Int) := of_decide_eq_true (by first | (with_reducible assumption) | assumption)
            have q260 : x21_2 < (t257.length : Int) := of_decide_eq_true (by first | (with_reducible assumption) | assumption)
            obtain ⟨ad260, e260, hx260_0⟩ := Kd.at_f32 (Kd.R_reads' HO_19.out).2.2 x21_2 p260 q260
            cases e260
            replace p260 := eq_true p260
            replace q260 := eq_true q260
            go_wp2_with (first | ((with_reducible refine gate_callee (f := 139) rfl ?_); refine gx_ (some 26) Try.func139 #[.float .f32 (rdOf (0 : Nat) t257 x21_2)] ?_; (with_reducible refine (impl_isNaN.calls (rdOf (0 : Nat) t257 x21_2) true _ A13.out).mono ?_); rintro e w' ⟨rfl, ⟨nd, rfl⟩⟩; refine ⟨_, rfl, ?_⟩))
            go_roundg k2
            case measure => have := HK1.out; have := HK2.out; omega
            case rel => exact ⟨(x5_2), (x6_2), (wrap64 (x21_2 + 1)), rs_, rs_, rs_, H', ⟨by have := HK1.out; have := HK2.out; omega⟩, ⟨by refine ru ?_; exact HO_19.out⟩, ⟨by refine bu ?_; exact BK256.out⟩, ⟨tb⟩⟩
           ·replace c14 := Bool.eq_false_iff.mpr c14
            subst c14
            have H1 : (if x5_2 < 0 then (impl_lowest.l1 k2 x13_1 (rdOf (0 : Nat) t257 x21_2) x13_1 l0 (l0.length : Int) x13_1 t257 (t257.length : Int) (wrap64 (x21_2 + 1))) else (if (flt .f32 (rdOf (0 : Nat) t257 x21_2) x6_2) = true then (impl_lowest.l1 k2 x13_1 (rdOf (0 : Nat) t257 x21_2) x13_1 l0 (l0.length : Int) x13_1 t257 (t257.length : Int) (wrap64 (x21_2 + 1))) else (impl_lowest.l1 k2 x5_2 x6_2 x13_1 l0 (l0.length : Int) x13_1 t257 (t257.length : Int) (wrap64 (x21_2 + 1))))) = some (r1, r2, r3) := by rw [if_neg (show ¬ (false = true) by decide)] at H; exact H
            clear H
            have H := H1
            clear H1
            by_cases c15 : x5_2 < 0
            ·rw [if_pos c15] at H
             have c15b0 : decide (x5_2 < 0) = true := decide_eq_true c15
             clear c15
             have H' := Aside0.mk H
             clear H
             have p260 : 0 ≤ (x21_2 : Int) := of_decide_eq_true (by first | (with_reducible assumption) | assumption)
             have q260 : x21_2 < (t257.length : Int) := of_decide_eq_true (by first | (with_reducible assumption) | assumption)
             obtain ⟨ad260, e260, hx260_0⟩ := Kd.at_f32 (Kd.R_reads' HO_19.out).2.2 x21_2 p260 q260
             cases e260
             replace p260 := eq_true p260
             replace q260 := eq_true q260
             go_wp2_with (first | ((with_reducible refine gate_callee (f := 139) rfl ?_); refine gx_ (some 26) Try.func139 #[.float .f32 (rdOf (0 : Nat) t257 x21_2)] ?_; (with_reducible refine (impl_isNaN.calls (rdOf (0 : Nat) t257 x21_2) false _ A13.out).mono ?_); rintro e w' ⟨rfl, ⟨nd, rfl⟩⟩; refine ⟨_, rfl, ?_⟩))
             go_roundg k2
             case measure => have := HK1.out; have := HK2.out; omega
             case rel => exact ⟨(x13_1), (rdOf (0 : Nat) t257 x21_2), (wrap64 (x21_2 + 1)), rs_, rs_, rs_, H', ⟨by have := HK1.out; have := HK2.out; omega⟩, ⟨by refine ru ?_; exact HO_19.out⟩, ⟨by refine bu ?_; exact BK256.out⟩, ⟨tb⟩⟩
            ·rw [if_neg c15] at H
             have c15b0 : decide (x5_2 < 0) = false := decide_eq_false c15
             clear c15
             by_cases c16 : (flt .f32 (rdOf (0 : Nat) t257 x21_2) x6_2) = true
             ·rw [if_pos c16] at H
              have c16b0 : (flt .f32 (rdOf (0 : Nat) t257 x21_2) x6_2) = true := c16
              clear c16
              have H' := Aside0.mk H
              clear H
              have p260 : 0 ≤ (x21_2 : Int) := of_decide_eq_true (by first | (with_reducible assumption) | assumption)
              have q260 : x21_2 < (t257.length : Int) := of_decide_eq_true (by first | (with_reducible assumption) | assumption)
              obtain ⟨ad260, e260, hx260_0⟩ := Kd.at_f32 (Kd.R_reads' HO_19.out).2.2 x21_2 p260 q260
              cases e260
              replace p260 := eq_true p260
              replace q260 := eq_true q260
              go_wp2_with (first | ((with_reducible refine gate_callee (f := 139) rfl ?_); refine gx_ (some 26) Try.func139 #[.float .f32 (rdOf (0 : Nat) t257 x21_2)] ?_; (with_reducible refine (impl_isNaN.calls (rdOf (0 : Nat) t257 x21_2) false _ A13.out).mono ?_); rintro e w' ⟨rfl, ⟨nd, rfl⟩⟩; refine ⟨_, rfl, ?_⟩))
              go_roundg k2
              case measure => have := HK1.out; have := HK2.out; omega
              case rel => exact ⟨(x13_1), (rdOf (0 : Nat) t257 x21_2), (wrap64 (x21_2 + 1)), rs_, rs_, rs_, H', ⟨by have := HK1.out; have := HK2.out; omega⟩, ⟨by refine ru ?_; exact HO_19.out⟩, ⟨by refine bu ?_; exact BK256.out⟩, ⟨tb⟩⟩
             ·rw [if_neg c16] at H
              have c16b0 : (flt .f32 (rdOf (0 : Nat) t257 x21_2) x6_2) = false := by simpa using c16
              clear c16
              have H' := Aside0.mk H
              clear H
              have p260 : 0 ≤ (x21_2 : Int) := of_decide_eq_true (by first | (with_reducible assumption) | assumption)
              have q260 : x21_2 < (t257.length : Int) := of_decide_eq_true (by first | (with_reducible assumption) | assumption)
              obtain ⟨ad260, e260, hx260_0⟩ := Kd.at_f32 (Kd.R_reads' HO_19.out).2.2 x21_2 p260 q260
              cases e260
              replace p260 := eq_true p260
              replace q260 := eq_true q260
              go_wp2_with (first | ((with_reducible refine gate_callee (f := 139) rfl ?_); refine gx_ (some 26) Try.func139 #[.float .f32 (rdOf (0 : Nat) t257 x21_2)] ?_; (with_reducible refine (impl_isNaN.calls (rdOf (0 : Nat) t257 x21_2) false _ A13.out).mono ?_); rintro e w' ⟨rfl, ⟨nd, rfl⟩⟩; refine ⟨_, rfl, ?_⟩))
              go_roundg k2
              case measure => have := HK1.out; have := HK2.out; omega
              case rel => exact ⟨(x5_2), (x6_2), (wrap64 (x21_2 + 1)), rs_, rs_, rs_, H', ⟨by have := HK1.out; have := HK2.out; omega⟩, ⟨by refine ru ?_; exact HO_19.out⟩, ⟨by refine bu ?_; exact BK256.out⟩, ⟨tb⟩⟩
          ·rw [if_neg c12] at H
           exact absurd H (by simp)
         ·rw [if_neg c11] at H
          exact absurd H (by simp)
        ·rw [if_neg c10] at H
         have c10b0 : decide (x21_2 < (t257.length : Int)) = false := decide_eq_false c10
         clear c10
         have H' := Aside0.mk H
         clear H
         go_wp2
         go_roundg k2
         case measure => have := HK1.out; have := HK2.out; omega
         case rel => exact ⟨(x5_2), (x6_2), (wrap64 (x13_1 + 1)), rs_, rs_, rs_, H', ⟨by have := HK1.out; have := HK2.out; omega⟩, ⟨tb⟩⟩
     ·rw [if_neg c4] at H
      exact absurd H (by simp)
    ·rw [if_neg c3] at H
     exact absurd H (by simp)
   ·rw [if_neg c2] at H
    have c2b0 : decide (x13_1 < (l0.length : Int)) = false := decide_eq_false c2
    clear c2
    by_cases c17 : x5_1 < 0
    ·rw [if_pos c17] at H
     have c17b0 : decide (x5_1 < 0) = true := decide_eq_true c17
     clear c17
     simp only [Option.some.injEq, Prod.mk.injEq] at H
     obtain ⟨rfl, rfl, rfl⟩ := H
     go_wp2
     go_ret3
     exact ⟨re_, tb⟩
    ·rw [if_neg c17] at H
     have c17b0 : decide (x5_1 < 0) = false := decide_eq_false c17
     clear c17
     simp only [Option.some.injEq, Prod.mk.injEq] at H
     obtain ⟨rfl, rfl, rfl⟩ := H
     go_wp2
     go_ret3
     exact ⟨re_, tb⟩

end Go.Proofs.Ytcgpomicgbmdlaa.PFnBanks
namespace Go.Proofs.Ytcgpomicgbmdlaa.PFnBanks
open Go.RowKit Go.Proofs.YtcgpomicgbmdlaaW.PrintWords Go.Proofs.YtcgpomicgbmdlaaW.PrintLast Go.Proofs.YtcgpomicgbmdlaaW.PrintMore
attribute [local go_sem] max2_int min2_int max_two min_two max_three min_three max_four min_four   -- for this text's walks alone
set_option linter.unusedVariables false
set_option linter.unusedSimpArgs false

-- NOT PRINTED: function 152 (impl_each)

end Go.Proofs.Ytcgpomicgbmdlaa.PFnBanks
namespace Go.Proofs.Ytcgpomicgbmdlaa.PFnBanks
open Go.RowKit Go.Proofs.YtcgpomicgbmdlaaW.PrintWords Go.Proofs.YtcgpomicgbmdlaaW.PrintLast Go.Proofs.YtcgpomicgbmdlaaW.PrintMore
attribute [local go_sem] max2_int min2_int max_two min_two max_three min_three max_four min_four   -- for this text's walks alone
set_option linter.unusedVariables false
set_option linter.unusedSimpArgs false

/-- A state of type 66 at block g of W; what its slices lead to came in by w0. -/
def IsS66 (w0 W : World) (g : Nat) (f0 : Int) (f1 : Cx) (f2 : Cx) (f3 : Int) (f4 : Cx) (f5 : Cx) (f6 : Cx) (f7 : Int) : Prop := W.heap[g]? = some (.cells #[.int .i64 f0, .complex .f32 f1.re f1.im, .complex .f32 f2.re f2.im, .int .i64 f3, .complex .f32 f4.re f4.im, .complex .f32 f5.re f5.im, .complex .f32 f6.re f6.im, .int .i64 f7] 66 (0, 0)) ∧ w0.heap.size ≤ g
theorem IsS66.grown {w0 W : World} {g : Nat} {f0 : Int} {f1 : Cx} {f2 : Cx} {f3 : Int} {f4 : Cx} {f5 : Cx} {f6 : Cx} {f7 : Int} {W1 : World} {row : Option Nat} (h : IsS66 w0 W g f0 f1 f2 f3 f4 f5 f6 f7) (hw : W.grownBy W1 row) (hne : some g ≠ row) : IsS66 w0 W1 g f0 f1 f2 f3 f4 f5 f6 f7 := by
 obtain ⟨hb, hg⟩ := h
 exact ⟨blk_grown hb hw hne, hg⟩
theorem IsS66.own_neN {w0 W : World} {g : Nat} {f0 : Int} {f1 : Cx} {f2 : Cx} {f3 : Int} {f4 : Cx} {f5 : Cx} {f6 : Cx} {f7 : Int} {α : Type} {d : Kd α} {e : Nat} {base : Nat} {ok : Nat → Prop} {v : Value} {xs : List α} (h : IsS66 w0 W g f0 f1 f2 f3 f4 f5 f6 f7) (ho : Kd.N d e W base ok v xs) (ht : e ≠ 66) : some g ≠ v.ownBlock := by
 obtain ⟨hb, hg⟩ := h
 exact Kd.N_ne ho hb ht
theorem IsS66.fresh {w0 W : World} {g : Nat} {f0 : Int} {f1 : Cx} {f2 : Cx} {f3 : Int} {f4 : Cx} {f5 : Cx} {f6 : Cx} {f7 : Int} (h : IsS66 w0 W g f0 f1 f2 f3 f4 f5 f6 f7) : ∀ k, W.heap.size ≤ k → k ≠ g := by
 obtain ⟨hb, hg⟩ := h
 exact Kd.freshB hb
theorem IsS66.kept {w0 W : World} {g : Nat} {f0 : Int} {f1 : Cx} {f2 : Cx} {f3 : Int} {f4 : Cx} {f5 : Cx} {f6 : Cx} {f7 : Int} {W1 : World} {S : Nat → Prop} (h : IsS66 w0 W g f0 f1 f2 f3 f4 f5 f6 f7) (hk : Kept W W1 S) (hne : ¬ S g) : IsS66 w0 W1 g f0 f1 f2 f3 f4 f5 f6 f7 := by
 obtain ⟨hb, hg⟩ := h
 exact ⟨blk_kept hb hk hne, hg⟩
theorem IsS66.below {w0 W : World} {g : Nat} {f0 : Int} {f1 : Cx} {f2 : Cx} {f3 : Int} {f4 : Cx} {f5 : Cx} {f6 : Cx} {f7 : Int} {W1 : World} (h : IsS66 w0 W g f0 f1 f2 f3 f4 f5 f6 f7) (hw : Below W.heap.size W W1) : IsS66 w0 W1 g f0 f1 f2 f3 f4 f5 f6 f7 := h.grown (grown_of_below hw none) (by simp)
theorem IsS66.alloc {w0 W : World} {g : Nat} {f0 : Int} {f1 : Cx} {f2 : Cx} {f3 : Int} {f4 : Cx} {f5 : Cx} {f6 : Cx} {f7 : Int} (h : IsS66 w0 W g f0 f1 f2 f3 f4 f5 f6 f7) (o : Obj) : IsS66 w0 (W.alloc o) g f0 f1 f2 f3 f4 f5 f6 f7 := h.below (below_alloc (Below.refl _ _) o)
theorem IsS66.drewN {w0 W : World} {g : Nat} {f0 : Int} {f1 : Cx} {f2 : Cx} {f3 : Int} {f4 : Cx} {f5 : Cx} {f6 : Cx} {f7 : Int} (h : IsS66 w0 W g f0 f1 f2 f3 f4 f5 f6 f7) (m : Nat) : IsS66 w0 (W.drewN m) g f0 f1 f2 f3 f4 f5 f6 f7 := h
theorem IsS66.drew {w0 W : World} {g : Nat} {f0 : Int} {f1 : Cx} {f2 : Cx} {f3 : Int} {f4 : Cx} {f5 : Cx} {f6 : Cx} {f7 : Int} (h : IsS66 w0 W g f0 f1 f2 f3 f4 f5 f6 f7) : IsS66 w0 W.drew g f0 f1 f2 f3 f4 f5 f6 f7 := h
theorem IsS66.at_ {w0 W : World} {g : Nat} {f0 : Int} {f1 : Cx} {f2 : Cx} {f3 : Int} {f4 : Cx} {f5 : Cx} {f6 : Cx} {f7 : Int} {w' : World} {m : Nat} (hq : W.drewN m = w') (h : IsS66 w0 W g f0 f1 f2 f3 f4 f5 f6 f7) : IsS66 w0 w' g f0 f1 f2 f3 f4 f5 f6 f7 := by subst hq; exact IsS66.drewN h m
theorem IsS66.apart {w0 W : World} {g : Nat} {f0 : Int} {f1 : Cx} {f2 : Cx} {f3 : Int} {f4 : Cx} {f5 : Cx} {f6 : Cx} {f7 : Int} {α : Type} {d : Kd α} {e : Nat} {base : Nat} {ok : Nat → Prop} {v : Value} {xs : List α} (h : IsS66 w0 W g f0 f1 f2 f3 f4 f5 f6 f7) (ho : d.R e W base ok v xs) (ht : ∀ q, q ∈ e :: d.E → q ≠ 66) : d.R e W base (fun k => ok k ∧ k ≠ g) v xs := by
 obtain ⟨hb, hg⟩ := h
 exact Kd.R_types ho hb ht
theorem IsS66.own_ne {w0 W : World} {g : Nat} {f0 : Int} {f1 : Cx} {f2 : Cx} {f3 : Int} {f4 : Cx} {f5 : Cx} {f6 : Cx} {f7 : Int} {α : Type} {d : Kd α} {e : Nat} {base : Nat} {ok : Nat → Prop} {v : Value} {xs : List α} (h : IsS66 w0 W g f0 f1 f2 f3 f4 f5 f6 f7) (ho : d.R e W base ok v xs) (ht : e ≠ 66) : some g ≠ v.ownBlock := by
 obtain ⟨hb, hg⟩ := h
 exact Kd.R_ne ho hb ht
theorem IsS66.apartQ {w0 W : World} {g : Nat} {f0 : Int} {f1 : Cx} {f2 : Cx} {f3 : Int} {f4 : Cx} {f5 : Cx} {f6 : Cx} {f7 : Int} {α : Type} {d : Kd α} {e : Nat} {base : Nat} {ok : Nat → Prop} {v : Value} {xs : List α} (h : IsS66 w0 W g f0 f1 f2 f3 f4 f5 f6 f7) (ho : d.Q e W base ok v xs) (ht : ∀ q, q ∈ e :: d.E → q ≠ 66) : d.Q e W base (fun k => ok k ∧ k ≠ g) v xs := by
 obtain ⟨hb, hg⟩ := h
 exact Kd.Q_types ho hb ht
theorem IsS66.own_neQ {w0 W : World} {g : Nat} {f0 : Int} {f1 : Cx} {f2 : Cx} {f3 : Int} {f4 : Cx} {f5 : Cx} {f6 : Cx} {f7 : Int} {α : Type} {d : Kd α} {e : Nat} {base : Nat} {ok : Nat → Prop} {v : Value} {xs : List α} (h : IsS66 w0 W g f0 f1 f2 f3 f4 f5 f6 f7) (ho : d.Q e W base ok v xs) (ht : e ≠ 66) : some g ≠ v.ownBlock := by
 obtain ⟨hb, hg⟩ := h
 exact Kd.Q_ne ho hb ht
theorem IsS66.apartS {w0 W : World} {g : Nat} {f0 : Int} {f1 : Cx} {f2 : Cx} {f3 : Int} {f4 : Cx} {f5 : Cx} {f6 : Cx} {f7 : Int} {α : Type} {d : Kd α} {e : Nat} {base : Nat} {ok : Nat → Prop} {v : Value} {xs : List α} (h : IsS66 w0 W g f0 f1 f2 f3 f4 f5 f6 f7) (ho : d.S e W base ok v xs) (ht : ∀ q, q ∈ e :: d.E → q ≠ 66) : d.S e W base (fun k => ok k ∧ k ≠ g) v xs := by
 obtain ⟨hb, hg⟩ := h
 exact Kd.S_types ho hb ht
theorem IsS66.own_neS {w0 W : World} {g : Nat} {f0 : Int} {f1 : Cx} {f2 : Cx} {f3 : Int} {f4 : Cx} {f5 : Cx} {f6 : Cx} {f7 : Int} {α : Type} {d : Kd α} {e : Nat} {base : Nat} {ok : Nat → Prop} {v : Value} {xs : List α} (h : IsS66 w0 W g f0 f1 f2 f3 f4 f5 f6 f7) (ho : d.S e W base ok v xs) (ht : e ≠ 66) : some g ≠ v.ownBlock := by
 obtain ⟨hb, hg⟩ := h
 exact Kd.S_ne ho hb ht
theorem IsS66.lt {w0 W : World} {g : Nat} {f0 : Int} {f1 : Cx} {f2 : Cx} {f3 : Int} {f4 : Cx} {f5 : Cx} {f6 : Cx} {f7 : Int} (h : IsS66 w0 W g f0 f1 f2 f3 f4 f5 f6 f7) : g < W.heap.size := by
 obtain ⟨hb, hg⟩ := h
 exact blk_lt hb
theorem IsS66.ge {w0 W : World} {g : Nat} {f0 : Int} {f1 : Cx} {f2 : Cx} {f3 : Int} {f4 : Cx} {f5 : Cx} {f6 : Cx} {f7 : Int} (h : IsS66 w0 W g f0 f1 f2 f3 f4 f5 f6 f7) : w0.heap.size ≤ g := by
 obtain ⟨hb, hg⟩ := h
 exact hg
theorem IsS66.ne_blk {w0 W : World} {g : Nat} {f0 : Int} {f1 : Cx} {f2 : Cx} {f3 : Int} {f4 : Cx} {f5 : Cx} {f6 : Cx} {f7 : Int} {a : Nat} {cs : Array Value} {t : TypeId} {fr : Nat × Nat} (h : IsS66 w0 W g f0 f1 f2 f3 f4 f5 f6 f7) (hb2 : W.heap[a]? = some (.cells cs t fr)) (ht : t ≠ 66) : g ≠ a := by
 obtain ⟨hb, hg⟩ := h
 rintro rfl
 rw [hb] at hb2
 injection hb2 with hb2
 injection hb2 with _ ht2
 exact ht ht2.symm
theorem IsS66.far {w0 W : World} {g : Nat} {f0 : Int} {f1 : Cx} {f2 : Cx} {f3 : Int} {f4 : Cx} {f5 : Cx} {f6 : Cx} {f7 : Int} {p : Addr} (h : IsS66 w0 W g f0 f1 f2 f3 f4 f5 f6 f7) (hne : g ≠ p.block) (u : Value) : IsS66 w0 (W.setCell p u) g f0 f1 f2 f3 f4 f5 f6 f7 := by
 obtain ⟨hb, hg⟩ := h
 exact ⟨blk_far hb hne u, hg⟩
theorem cellS66_0 {W : World} {g : Nat} {f0 : Int} {f1 : Cx} {f2 : Cx} {f3 : Int} {f4 : Cx} {f5 : Cx} {f6 : Cx} {f7 : Int} (h : W.heap[g]? = some (.cells #[.int .i64 f0, .complex .f32 f1.re f1.im, .complex .f32 f2.re f2.im, .int .i64 f3, .complex .f32 f4.re f4.im, .complex .f32 f5.re f5.im, .complex .f32 f6.re f6.im, .int .i64 f7] 66 (0, 0))) : W.cell? ⟨g, 0, none⟩ = some (.int .i64 f0) := (blk_cell h 0).trans rfl
theorem IsS66.set_0 {w0 W : World} {g : Nat} {f0 : Int} {f1 : Cx} {f2 : Cx} {f3 : Int} {f4 : Cx} {f5 : Cx} {f6 : Cx} {f7 : Int} (h : IsS66 w0 W g f0 f1 f2 f3 f4 f5 f6 f7) (x : Int) : IsS66 w0 (W.setCell ⟨g, 0, none⟩ (.int .i64 x)) g x f1 f2 f3 f4 f5 f6 f7 := by
 obtain ⟨hb, hg⟩ := h
 exact ⟨by simpa using blk_set hb 0 (.int .i64 x), hg⟩
theorem cellS66_1 {W : World} {g : Nat} {f0 : Int} {f1 : Cx} {f2 : Cx} {f3 : Int} {f4 : Cx} {f5 : Cx} {f6 : Cx} {f7 : Int} (h : W.heap[g]? = some (.cells #[.int .i64 f0, .complex .f32 f1.re f1.im, .complex .f32 f2.re f2.im, .int .i64 f3, .complex .f32 f4.re f4.im, .complex .f32 f5.re f5.im, .complex .f32 f6.re f6.im, .int .i64 f7] 66 (0, 0))) : W.cell? ⟨g, 1, none⟩ = some (.complex .f32 f1.re f1.im) := (blk_cell h 1).trans rfl
theorem IsS66.set_1 {w0 W : World} {g : Nat} {f0 : Int} {f1 : Cx} {f2 : Cx} {f3 : Int} {f4 : Cx} {f5 : Cx} {f6 : Cx} {f7 : Int} (h : IsS66 w0 W g f0 f1 f2 f3 f4 f5 f6 f7) (x : Cx) : IsS66 w0 (W.setCell ⟨g, 1, none⟩ (.complex .f32 x.re x.im)) g f0 x f2 f3 f4 f5 f6 f7 := by
 obtain ⟨hb, hg⟩ := h
 exact ⟨by simpa using blk_set hb 1 (.complex .f32 x.re x.im), hg⟩
theorem cellS66_2 {W : World} {g : Nat} {f0 : Int} {f1 : Cx} {f2 : Cx} {f3 : Int} {f4 : Cx} {f5 : Cx} {f6 : Cx} {f7 : Int} (h : W.heap[g]? = some (.cells #[.int .i64 f0, .complex .f32 f1.re f1.im, .complex .f32 f2.re f2.im, .int .i64 f3, .complex .f32 f4.re f4.im, .complex .f32 f5.re f5.im, .complex .f32 f6.re f6.im, .int .i64 f7] 66 (0, 0))) : W.cell? ⟨g, 2, none⟩ = some (.complex .f32 f2.re f2.im) := (blk_cell h 2).trans rfl
theorem IsS66.set_2 {w0 W : World} {g : Nat} {f0 : Int} {f1 : Cx} {f2 : Cx} {f3 : Int} {f4 : Cx} {f5 : Cx} {f6 : Cx} {f7 : Int} (h : IsS66 w0 W g f0 f1 f2 f3 f4 f5 f6 f7) (x : Cx) : IsS66 w0 (W.setCell ⟨g, 2, none⟩ (.complex .f32 x.re x.im)) g f0 f1 x f3 f4 f5 f6 f7 := by
 obtain ⟨hb, hg⟩ := h
 exact ⟨by simpa using blk_set hb 2 (.complex .f32 x.re x.im), hg⟩
theorem cellS66_3 {W : World} {g : Nat} {f0 : Int} {f1 : Cx} {f2 : Cx} {f3 : Int} {f4 : Cx} {f5 : Cx} {f6 : Cx} {f7 : Int} (h : W.heap[g]? = some (.cells #[.int .i64 f0, .complex .f32 f1.re f1.im, .complex .f32 f2.re f2.im, .int .i64 f3, .complex .f32 f4.re f4.im, .complex .f32 f5.re f5.im, .complex .f32 f6.re f6.im, .int .i64 f7] 66 (0, 0))) : W.cell? ⟨g, 3, none⟩ = some (.int .i64 f3) := (blk_cell h 3).trans rfl
theorem IsS66.set_3 {w0 W : World} {g : Nat} {f0 : Int} {f1 : Cx} {f2 : Cx} {f3 : Int} {f4 : Cx} {f5 : Cx} {f6 : Cx} {f7 : Int} (h : IsS66 w0 W g f0 f1 f2 f3 f4 f5 f6 f7) (x : Int) : IsS66 w0 (W.setCell ⟨g, 3, none⟩ (.int .i64 x)) g f0 f1 f2 x f4 f5 f6 f7 := by
 obtain ⟨hb, hg⟩ := h
 exact ⟨by simpa using blk_set hb 3 (.int .i64 x), hg⟩
theorem cellS66_4 {W : World} {g : Nat} {f0 : Int} {f1 : Cx} {f2 : Cx} {f3 : Int} {f4 : Cx} {f5 : Cx} {f6 : Cx} {f7 : Int} (h : W.heap[g]? = some (.cells #[.int .i64 f0, .complex .f32 f1.re f1.im, .complex .f32 f2.re f2.im, .int .i64 f3, .complex .f32 f4.re f4.im, .complex .f32 f5.re f5.im, .complex .f32 f6.re f6.im, .int .i64 f7] 66 (0, 0))) : W.cell? ⟨g, 4, none⟩ = some (.complex .f32 f4.re f4.im) := (blk_cell h 4).trans rfl
theorem IsS66.set_4 {w0 W : World} {g : Nat} {f0 : Int} {f1 : Cx} {f2 : Cx} {f3 : Int} {f4 : Cx} {f5 : Cx} {f6 : Cx} {f7 : Int} (h : IsS66 w0 W g f0 f1 f2 f3 f4 f5 f6 f7) (x : Cx) : IsS66 w0 (W.setCell ⟨g, 4, none⟩ (.complex .f32 x.re x.im)) g f0 f1 f2 f3 x f5 f6 f7 := by
 obtain ⟨hb, hg⟩ := h
 exact ⟨by simpa using blk_set hb 4 (.complex .f32 x.re x.im), hg⟩
theorem cellS66_5 {W : World} {g : Nat} {f0 : Int} {f1 : Cx} {f2 : Cx} {f3 : Int} {f4 : Cx} {f5 : Cx} {f6 : Cx} {f7 : Int} (h : W.heap[g]? = some (.cells #[.int .i64 f0, .complex .f32 f1.re f1.im, .complex .f32 f2.re f2.im, .int .i64 f3, .complex .f32 f4.re f4.im, .complex .f32 f5.re f5.im, .complex .f32 f6.re f6.im, .int .i64 f7] 66 (0, 0))) : W.cell? ⟨g, 5, none⟩ = some (.complex .f32 f5.re f5.im) := (blk_cell h 5).trans rfl
theorem IsS66.set_5 {w0 W : World} {g : Nat} {f0 : Int} {f1 : Cx} {f2 : Cx} {f3 : Int} {f4 : Cx} {f5 : Cx} {f6 : Cx} {f7 : Int} (h : IsS66 w0 W g f0 f1 f2 f3 f4 f5 f6 f7) (x : Cx) : IsS66 w0 (W.setCell ⟨g, 5, none⟩ (.complex .f32 x.re x.im)) g f0 f1 f2 f3 f4 x f6 f7 := by
 obtain ⟨hb, hg⟩ := h
 exact ⟨by simpa using blk_set hb 5 (.complex .f32 x.re x.im), hg⟩
theorem cellS66_6 {W : World} {g : Nat} {f0 : Int} {f1 : Cx} {f2 : Cx} {f3 : Int} {f4 : Cx} {f5 : Cx} {f6 : Cx} {f7 : Int} (h : W.heap[g]? = some (.cells #[.int .i64 f0, .complex .f32 f1.re f1.im, .complex .f32 f2.re f2.im, .int .i64 f3, .complex .f32 f4.re f4.im, .complex .f32 f5.re f5.im, .complex .f32 f6.re f6.im, .int .i64 f7] 66 (0, 0))) : W.cell? ⟨g, 6, none⟩ = some (.complex .f32 f6.re f6.im) := (blk_cell h 6).trans rfl
theorem IsS66.set_6 {w0 W : World} {g : Nat} {f0 : Int} {f1 : Cx} {f2 : Cx} {f3 : Int} {f4 : Cx} {f5 : Cx} {f6 : Cx} {f7 : Int} (h : IsS66 w0 W g f0 f1 f2 f3 f4 f5 f6 f7) (x : Cx) : IsS66 w0 (W.setCell ⟨g, 6, none⟩ (.complex .f32 x.re x.im)) g f0 f1 f2 f3 f4 f5 x f7 := by
 obtain ⟨hb, hg⟩ := h
 exact ⟨by simpa using blk_set hb 6 (.complex .f32 x.re x.im), hg⟩
theorem cellS66_7 {W : World} {g : Nat} {f0 : Int} {f1 : Cx} {f2 : Cx} {f3 : Int} {f4 : Cx} {f5 : Cx} {f6 : Cx} {f7 : Int} (h : W.heap[g]? = some (.cells #[.int .i64 f0, .complex .f32 f1.re f1.im, .complex .f32 f2.re f2.im, .int .i64 f3, .complex .f32 f4.re f4.im, .complex .f32 f5.re f5.im, .complex .f32 f6.re f6.im, .int .i64 f7] 66 (0, 0))) : W.cell? ⟨g, 7, none⟩ = some (.int .i64 f7) := (blk_cell h 7).trans rfl
theorem IsS66.set_7 {w0 W : World} {g : Nat} {f0 : Int} {f1 : Cx} {f2 : Cx} {f3 : Int} {f4 : Cx} {f5 : Cx} {f6 : Cx} {f7 : Int} (h : IsS66 w0 W g f0 f1 f2 f3 f4 f5 f6 f7) (x : Int) : IsS66 w0 (W.setCell ⟨g, 7, none⟩ (.int .i64 x)) g f0 f1 f2 f3 f4 f5 f6 x := by
 obtain ⟨hb, hg⟩ := h
 exact ⟨by simpa using blk_set hb 7 (.int .i64 x), hg⟩
theorem IsS66.new (w0 W : World) (f0 : Int) (f1 : Cx) (f2 : Cx) (f3 : Int) (f4 : Cx) (f5 : Cx) (f6 : Cx) (f7 : Int) (hB : Below w0.heap.size w0 W) : IsS66 w0 (W.alloc (.cells #[.int .i64 f0, .complex .f32 f1.re f1.im, .complex .f32 f2.re f2.im, .int .i64 f3, .complex .f32 f4.re f4.im, .complex .f32 f5.re f5.im, .complex .f32 f6.re f6.im, .int .i64 f7] 66)) W.heap.size f0 f1 f2 f3 f4 f5 f6 f7 := ⟨by simpa using heap_alloc_new W _, hB.size⟩
theorem IsS66.up {P : Prop} (h : P := by repeat (first | (with_reducible first | exact hi_ | apply IsS66.alloc | apply IsS66.drewN | apply IsS66.drew | apply IsS66.set_0 | apply IsS66.set_1 | apply IsS66.set_2 | apply IsS66.set_3 | apply IsS66.set_4 | apply IsS66.set_5 | apply IsS66.set_6 | apply IsS66.set_7 | refine IsS66.far ?_ (Aside0.out (by assumption)) _) | exact hi_)) : P := h
theorem IsS66.cell_0 {w0 W : World} {g : Nat} {f0 : Int} {f1 : Cx} {f2 : Cx} {f3 : Int} {f4 : Cx} {f5 : Cx} {f6 : Cx} {f7 : Int} (h : IsS66 w0 W g f0 f1 f2 f3 f4 f5 f6 f7) : W.cell? ⟨g, 0, none⟩ = some (.int .i64 f0) := by
 obtain ⟨hb, hg⟩ := h
 exact cellS66_0 hb
theorem IsS66.cell_1 {w0 W : World} {g : Nat} {f0 : Int} {f1 : Cx} {f2 : Cx} {f3 : Int} {f4 : Cx} {f5 : Cx} {f6 : Cx} {f7 : Int} (h : IsS66 w0 W g f0 f1 f2 f3 f4 f5 f6 f7) : W.cell? ⟨g, 1, none⟩ = some (.complex .f32 f1.re f1.im) := by
 obtain ⟨hb, hg⟩ := h
 exact cellS66_1 hb
theorem IsS66.cell_2 {w0 W : World} {g : Nat} {f0 : Int} {f1 : Cx} {f2 : Cx} {f3 : Int} {f4 : Cx} {f5 : Cx} {f6 : Cx} {f7 : Int} (h : IsS66 w0 W g f0 f1 f2 f3 f4 f5 f6 f7) : W.cell? ⟨g, 2, none⟩ = some (.complex .f32 f2.re f2.im) := by
 obtain ⟨hb, hg⟩ := h
 exact cellS66_2 hb
theorem IsS66.cell_3 {w0 W : World} {g : Nat} {f0 : Int} {f1 : Cx} {f2 : Cx} {f3 : Int} {f4 : Cx} {f5 : Cx} {f6 : Cx} {f7 : Int} (h : IsS66 w0 W g f0 f1 f2 f3 f4 f5 f6 f7) : W.cell? ⟨g, 3, none⟩ = some (.int .i64 f3) := by
 obtain ⟨hb, hg⟩ := h
 exact cellS66_3 hb
theorem IsS66.cell_4 {w0 W : World} {g : Nat} {f0 : Int} {f1 : Cx} {f2 : Cx} {f3 : Int} {f4 : Cx} {f5 : Cx} {f6 : Cx} {f7 : Int} (h : IsS66 w0 W g f0 f1 f2 f3 f4 f5 f6 f7) : W.cell? ⟨g, 4, none⟩ = some (.complex .f32 f4.re f4.im) := by
 obtain ⟨hb, hg⟩ := h
 exact cellS66_4 hb
theorem IsS66.cell_5 {w0 W : World} {g : Nat} {f0 : Int} {f1 : Cx} {f2 : Cx} {f3 : Int} {f4 : Cx} {f5 : Cx} {f6 : Cx} {f7 : Int} (h : IsS66 w0 W g f0 f1 f2 f3 f4 f5 f6 f7) : W.cell? ⟨g, 5, none⟩ = some (.complex .f32 f5.re f5.im) := by
 obtain ⟨hb, hg⟩ := h
 exact cellS66_5 hb
theorem IsS66.cell_6 {w0 W : World} {g : Nat} {f0 : Int} {f1 : Cx} {f2 : Cx} {f3 : Int} {f4 : Cx} {f5 : Cx} {f6 : Cx} {f7 : Int} (h : IsS66 w0 W g f0 f1 f2 f3 f4 f5 f6 f7) : W.cell? ⟨g, 6, none⟩ = some (.complex .f32 f6.re f6.im) := by
 obtain ⟨hb, hg⟩ := h
 exact cellS66_6 hb
theorem IsS66.cell_7 {w0 W : World} {g : Nat} {f0 : Int} {f1 : Cx} {f2 : Cx} {f3 : Int} {f4 : Cx} {f5 : Cx} {f6 : Cx} {f7 : Int} (h : IsS66 w0 W g f0 f1 f2 f3 f4 f5 f6 f7) : W.cell? ⟨g, 7, none⟩ = some (.int .i64 f7) := by
 obtain ⟨hb, hg⟩ := h
 exact cellS66_7 hb

/-! ### impl_LoadCurrentOf_1: function 169 -/
def impl_LoadCurrentOf_1.f (a0 : Cx) (a1 : Cx) (s2_0 : Int) (s2_1 : Cx) (s2_2 : Cx) (s2_3 : Int) (s2_4 : Cx) (s2_5 : Cx) (s2_6 : Cx) (s2_7 : Int) : Option (Cx × Int × Cx × Cx × Int × Cx × Cx × Cx × Int) := if (ceq .f32 a0.re a0.im 0 0) = true then (some ((⟨0, 0⟩ : Cx), s2_0, s2_1, s2_2, s2_3, s2_4, s2_5, s2_6, s2_7)) else (if s2_3 = 0 then ((impl_QuotientOf.f a0 a1).bind fun t262 => ((impl_ConjugateOf.f t262).bind fun t263 => (some (t263, s2_0, s2_1, s2_2, s2_3, s2_4, s2_5, s2_6, s2_7)))) else (if s2_3 = 1 then (some (a0, s2_0, s2_1, s2_2, s2_3, s2_4, s2_5, s2_6, s2_7)) else (if s2_3 = 2 then ((impl_QuotientOf.f a1 a0).bind fun t264 => (some (t264, s2_0, s2_1, s2_2, s2_3, s2_4, s2_5, s2_6, s2_7))) else (some ((⟨0, 0⟩ : Cx), s2_0, s2_1, s2_2, s2_3, s2_4, s2_5, s2_6, s2_7)))))
set_option maxHeartbeats 8000000 in
set_option maxRecDepth 100000 in
theorem impl_LoadCurrentOf_1.calls (a0 : Cx) (a1 : Cx) (g : Nat) (s2_0 : Int) (s2_1 : Cx) (s2_2 : Cx) (s2_3 : Int) (s2_4 : Cx) (s2_5 : Cx) (s2_6 : Cx) (s2_7 : Int) (r1 : Cx) (r2 : Int) (r3 : Cx) (r4 : Cx) (r5 : Int) (r6 : Cx) (r7 : Cx) (r8 : Cx) (r9 : Int) (w0 w : World) (hI : IsS66 w0 w g s2_0 s2_1 s2_2 s2_3 s2_4 s2_5 s2_6 s2_7) (hB : Below w0.heap.size w0 w) (h : impl_LoadCurrentOf_1.f a0 a1 s2_0 s2_1 s2_2 s2_3 s2_4 s2_5 s2_6 s2_7 = some (r1, r2, r3, r4, r5, r6, r7, r8, r9)) :
  Calls Try.prog 169 #[.complex .f32 a0.re a0.im, .complex .f32 a1.re a1.im, .pointer (some ⟨g, 0, none⟩)] w fun e w' => e = .returned (.complex .f32 r1.re r1.im) ∧ IsS66 w0 w' g r2 r3 r4 r5 r6 r7 r8 r9 ∧ Below w0.heap.size w0 w' ∧ KeepBut w w' g none := by
 have HI2 := Aside0.mk hI
 have HK := Aside0.mk (KeepBut.refl w g none)
 have HL := Aside0.mk hB.size
 clear hI
 have HW0 := Aside0.mk hB.size
 have HB := Aside0.mk hB
 clear hB
 have H : (if (ceq .f32 a0.re a0.im 0 0) = true then (some ((⟨0, 0⟩ : Cx), s2_0, s2_1, s2_2, s2_3, s2_4, s2_5, s2_6, s2_7)) else (if s2_3 = 0 then ((impl_QuotientOf.f a0 a1).bind fun t262 => ((impl_ConjugateOf.f t262).bind fun t263 => (some (t263, s2_0, s2_1, s2_2, s2_3, s2_4, s2_5, s2_6, s2_7)))) else (if s2_3 = 1 then (some (a0, s2_0, s2_1, s2_2, s2_3, s2_4, s2_5, s2_6, s2_7)) else (if s2_3 = 2 then ((impl_QuotientOf.f a1 a0).bind fun t264 => (some (t264, s2_0, s2_1, s2_2, s2_3, s2_4, s2_5, s2_6, s2_7))) else (some ((⟨0, 0⟩ : Cx), s2_0, s2_1, s2_2, s2_3, s2_4, s2_5, s2_6, s2_7)))))) = some (r1, r2, r3, r4, r5, r6, r7, r8, r9) := h
 clear h
 by_cases c4 : (ceq .f32 a0.re a0.im 0 0) = true
 ·rw [if_pos c4] at H
  have c4b0 : (ceq .f32 a0.re a0.im 0 0) = true := c4
  clear c4
  simp only [Option.some.injEq, Prod.mk.injEq] at H
  obtain ⟨rfl, rfl, rfl, rfl, rfl, rfl, rfl, rfl, rfl⟩ := H
  go_enter Try.func169, Try.ntmps169
  go_wp2
  go_ret
  exact ⟨re_, by have hi_ := HI2.out; exact IsS66.up, by have ge_ := IsS66.ge HI2.out; exact tb, by repeat (first | (with_reducible first | exact HK.out | apply KeepBut.set_ | apply keep_drewN | apply keep_drew | apply keep_alloc) | exact HK.out)⟩
 ·rw [if_neg c4] at H
  have c4b0 : (ceq .f32 a0.re a0.im 0 0) = false := by simpa using c4
  clear c4
  by_cases c5 : s2_3 = 0
  ·rw [if_pos c5] at H
   have c5b0 : (s2_3 == 0) = true := beq_iff_eq.mpr c5
   have c5b1 : (s2_3 != 0) = false := bne_eq_false_iff_eq.mpr c5
   clear c5
   replace H := Option.bind_eq_some_iff.mp H
   obtain ⟨t262, A60, H⟩ := H
   try dsimp only at H
   have A6 := Aside0.mk A60
   clear A60
   replace H := Option.bind_eq_some_iff.mp H
   obtain ⟨t263, A70, H⟩ := H
   try dsimp only at H
   have A7 := Aside0.mk A70
   clear A70
   simp only [Option.some.injEq, Prod.mk.injEq] at H
   obtain ⟨rfl, rfl, rfl, rfl, rfl, rfl, rfl, rfl, rfl⟩ := H
   obtain ⟨HGz8, hgz8⟩ := HI2.out
   have hcz8_0 := cellS66_0 HGz8
   have hcz8_1 := cellS66_1 HGz8
   have hcz8_2 := cellS66_2 HGz8
   have hcz8_3 := cellS66_3 HGz8
   have hcz8_4 := cellS66_4 HGz8
   have hcz8_5 := cellS66_5 HGz8
   have hcz8_6 := cellS66_6 HGz8
   have hcz8_7 := cellS66_7 HGz8
   have hfz8_0 := blk_frozen HGz8 0
   have hfz8_1 := blk_frozen HGz8 1
   have hfz8_2 := blk_frozen HGz8 2
   have hfz8_3 := blk_frozen HGz8 3
   have hfz8_4 := blk_frozen HGz8 4
   have hfz8_5 := blk_frozen HGz8 5
   have hfz8_6 := blk_frozen HGz8 6
   have hfz8_7 := blk_frozen HGz8 7
   clear HGz8 hgz8
   go_enter Try.func169, Try.ntmps169
   go_wp2_with (first | ((with_reducible refine gate_callee (f := 95) rfl ?_); refine gx_ (some 15) Try.func95 #[.complex .f32 a0.re a0.im, .complex .f32 a1.re a1.im] ?_; (with_reducible refine (impl_QuotientOf.calls a0 a1 t262 _ A6.out).mono ?_); rintro e w9 ⟨rfl, hb⟩; refine ⟨_, rfl, ?_⟩; have n0_ := Aside0.mk (IsS66.below (by have hi_ := HI2.out; exact IsS66.up) hb); have n1_ := Aside0.mk (KeepBut.trans (by repeat (first | (with_reducible first | exact HK.out | apply KeepBut.set_ | apply keep_drewN | apply keep_drew | apply keep_alloc) | exact HK.out)) (KeepBut.of_below hb g none) (.inl rfl)); have n2_ := Aside0.mk (below_step (by have ge_ := IsS66.ge HI2.out; exact tb) hb); clear HI2; clear HK; clear HB; have HI2 := n0_; have HK := n1_; have HB := n2_; clear n0_ n1_ n2_; (try clear hb); (try clear hb2); (try clear hk); (try clear hi)) | ((with_reducible refine gate_callee (f := 72) rfl ?_); refine gx_ (some 16) Try.func72 #[.complex .f32 t262.re t262.im] ?_; (with_reducible refine (impl_ConjugateOf.calls t262 t263 _ A7.out).mono ?_); rintro e w10 ⟨rfl, hb⟩; refine ⟨_, rfl, ?_⟩; have n0_ := Aside0.mk (IsS66.below (by have hi_ := HI2.out; exact IsS66.up) hb); have n1_ := Aside0.mk (KeepBut.trans (by repeat (first | (with_reducible first | exact HK.out | apply KeepBut.set_ | apply keep_drewN | apply keep_drew | apply keep_alloc) | exact HK.out)) (KeepBut.of_below hb g none) (.inl rfl)); have n2_ := Aside0.mk (below_step (by have ge_ := IsS66.ge HI2.out; exact tb) hb); clear HI2; clear HK; clear HB; have HI2 := n0_; have HK := n1_; have HB := n2_; clear n0_ n1_ n2_; (try clear hb); (try clear hb2); (try clear hk); (try clear hi)))
   go_ret
   exact ⟨re_, by have hi_ := HI2.out; exact IsS66.up, by have ge_ := IsS66.ge HI2.out; exact tb, by repeat (first | (with_reducible first | exact HK.out | apply KeepBut.set_ | apply keep_drewN | apply keep_drew | apply keep_alloc) | exact HK.out)⟩
  ·rw [if_neg c5] at H
   have c5b0 : (s2_3 == 0) = false := beq_eq_false_iff_ne.mpr c5
   have c5b1 : (s2_3 != 0) = true := bne_iff_ne.mpr c5
   by_cases c11 : s2_3 = 1
   ·rw [if_pos c11] at H
    have c11b0 : (s2_3 == 1) = true := beq_iff_eq.mpr c11
    have c11b1 : (s2_3 != 1) = false := bne_eq_false_iff_eq.mpr c11
    clear c11
    simp only [Option.some.injEq, Prod.mk.injEq] at H
    obtain ⟨rfl, rfl, rfl, rfl, rfl, rfl, rfl, rfl, rfl⟩ := H
    obtain ⟨HGz12, hgz12⟩ := HI2.out
    have hcz12_0 := cellS66_0 HGz12
    have hcz12_1 := cellS66_1 HGz12
    have hcz12_2 := cellS66_2 HGz12
    have hcz12_3 := cellS66_3 HGz12
    have hcz12_4 := cellS66_4 HGz12
    have hcz12_5 := cellS66_5 HGz12
    have hcz12_6 := cellS66_6 HGz12
    have hcz12_7 := cellS66_7 HGz12
    have hfz12_0 := blk_frozen HGz12 0
    have hfz12_1 := blk_frozen HGz12 1
    have hfz12_2 := blk_frozen HGz12 2
    have hfz12_3 := blk_frozen HGz12 3
    have hfz12_4 := blk_frozen HGz12 4
    have hfz12_5 := blk_frozen HGz12 5
    have hfz12_6 := blk_frozen HGz12 6
    have hfz12_7 := blk_frozen HGz12 7
    clear HGz12 hgz12
    go_enter Try.func169, Try.ntmps169
    go_wp2
    go_ret
    exact ⟨re_, by have hi_ := HI2.out; exact IsS66.up, by have ge_ := IsS66.ge HI2.out; exact tb, by repeat (first | (with_reducible first | exact HK.out | apply KeepBut.set_ | apply keep_drewN | apply keep_drew | apply keep_alloc) | exact HK.out)⟩
   ·rw [if_neg c11] at H
    have c11b0 : (s2_3 == 1) = false := beq_eq_false_iff_ne.mpr c11
    have c11b1 : (s2_3 != 1) = true := bne_iff_ne.mpr c11
    by_cases c13 : s2_3 = 2
    ·rw [if_pos c13] at H
     have c13b0 : (s2_3 == 2) = true := beq_iff_eq.mpr c13
     have c13b1 : (s2_3 != 2) = false := bne_eq_false_iff_eq.mpr c13
     clear c13
     replace H := Option.bind_eq_some_iff.mp H
     obtain ⟨t264, A140, H⟩ := H
     try dsimp only at H
     have A14 := Aside0.mk A140
     clear A140
     simp only [Option.some.injEq, Prod.mk.injEq] at H
     obtain ⟨rfl, rfl, rfl, rfl, rfl, rfl, rfl, rfl, rfl⟩ := H
     obtain ⟨HGz15, hgz15⟩ := HI2.out
     have hcz15_0 := cellS66_0 HGz15
     have hcz15_1 := cellS66_1 HGz15
     have hcz15_2 := cellS66_2 HGz15
     have hcz15_3 := cellS66_3 HGz15
     have hcz15_4 := cellS66_4 HGz15
     have hcz15_5 := cellS66_5 HGz15
     have hcz15_6 := cellS66_6 HGz15
     have hcz15_7 := cellS66_7 HGz15
     have hfz15_0 := blk_frozen HGz15 0
     have hfz15_1 := blk_frozen HGz15 1
     have hfz15_2 := blk_frozen HGz15 2
     have hfz15_3 := blk_frozen HGz15 3
     have hfz15_4 := blk_frozen HGz15 4
     have hfz15_5 := blk_frozen HGz15 5
     have hfz15_6 := blk_frozen HGz15 6
     have hfz15_7 := blk_frozen HGz15 7
     clear HGz15 hgz15
     go_enter Try.func169, Try.ntmps169
     go_wp2_with (first | ((with_reducible refine gate_callee (f := 95) rfl ?_); refine gx_ (some 28) Try.func95 #[.complex .f32 a1.re a1.im, .complex .f32 a0.re a0.im] ?_; (with_reducible refine (impl_QuotientOf.calls a1 a0 t264 _ A14.out).mono ?_); rintro e w16 ⟨rfl, hb⟩; refine ⟨_, rfl, ?_⟩; have n0_ := Aside0.mk (IsS66.below (by have hi_ := HI2.out; exact IsS66.up) hb); have n1_ := Aside0.mk (KeepBut.trans (by repeat (first | (with_reducible first | exact HK.out | apply KeepBut.set_ | apply keep_drewN | apply keep_drew | apply keep_alloc) | exact HK.out)) (KeepBut.of_below hb g none) (.inl rfl)); have n2_ := Aside0.mk (below_step (by have ge_ := IsS66.ge HI2.out; exact tb) hb); clear HI2; clear HK; clear HB; have HI2 := n0_; have HK := n1_; have HB := n2_; clear n0_ n1_ n2_; (try clear hb); (try clear hb2); (try clear hk); (try clear hi)))
     go_ret
     exact ⟨re_, by have hi_ := HI2.out; exact IsS66.up, by have ge_ := IsS66.ge HI2.out; exact tb, by repeat (first | (with_reducible first | exact HK.out | apply KeepBut.set_ | apply keep_drewN | apply keep_drew | apply keep_alloc) | exact HK.out)⟩
    ·rw [if_neg c13] at H
     have c13b0 : (s2_3 == 2) = false := beq_eq_false_iff_ne.mpr c13
     have c13b1 : (s2_3 != 2) = true := bne_iff_ne.mpr c13
     simp only [Option.some.injEq, Prod.mk.injEq] at H
     obtain ⟨rfl, rfl, rfl, rfl, rfl, rfl, rfl, rfl, rfl⟩ := H
     obtain ⟨HGz17, hgz17⟩ := HI2.out
     have hcz17_0 := cellS66_0 HGz17
     have hcz17_1 := cellS66_1 HGz17
     have hcz17_2 := cellS66_2 HGz17
     have hcz17_3 := cellS66_3 HGz17
     have hcz17_4 := cellS66_4 HGz17
     have hcz17_5 := cellS66_5 HGz17
     have hcz17_6 := cellS66_6 HGz17
     have hcz17_7 := cellS66_7 HGz17
     have hfz17_0 := blk_frozen HGz17 0
     have hfz17_1 := blk_frozen HGz17 1
     have hfz17_2 := blk_frozen HGz17 2
     have hfz17_3 := blk_frozen HGz17 3
     have hfz17_4 := blk_frozen HGz17 4
     have hfz17_5 := blk_frozen HGz17 5
     have hfz17_6 := blk_frozen HGz17 6
     have hfz17_7 := blk_frozen HGz17 7
     clear HGz17 hgz17
     go_enter Try.func169, Try.ntmps169
     go_wp2
     go_ret
     exact ⟨re_, by have hi_ := HI2.out; exact IsS66.up, by have ge_ := IsS66.ge HI2.out; exact tb, by repeat (first | (with_reducible first | exact HK.out | apply KeepBut.set_ | apply keep_drewN | apply keep_drew | apply keep_alloc) | exact HK.out)⟩

end Go.Proofs.Ytcgpomicgbmdlaa.PFnBanks
