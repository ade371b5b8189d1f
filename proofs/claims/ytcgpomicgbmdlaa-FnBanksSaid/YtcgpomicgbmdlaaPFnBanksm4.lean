-- Words and walks of the print, as far as this claim uses them (laid by wip/mkclaim.py of this session). Lean checks it.
import Derived.Test.YtcgpomicgbmdlaaFl
import Derived.Test.YtcgpomicgbmdlaaPFnBanksm0
import Derived.Test.YtcgpomicgbmdlaaPFnBanksm3
import Derived.Test.YtcgpomicgbmdlaaPFnBanksm2
namespace Go.Proofs.Ytcgpomicgbmdlaa.PFnBanks
open Go.RowKit Go.Proofs.YtcgpomicgbmdlaaW.PrintWords Go.Proofs.YtcgpomicgbmdlaaW.PrintLast Go.Proofs.YtcgpomicgbmdlaaW.PrintMore
attribute [local go_sem] max2_int min2_int max_two min_two max_three min_three max_four min_four   -- for this text's walks alone
set_option linter.unusedVariables false
set_option linter.unusedSimpArgs false

/-! ### impl_each_c169: function 152 -/
def impl_each_c169.f (a0_0 : Cx) (a0_1 : Cx) (a0_2 : Cx) (a1_0 : Cx) (a1_1 : Cx) (a1_2 : Cx) (s2_0 : Int) (s2_1 : Cx) (s2_2 : Cx) (s2_3 : Int) (s2_4 : Cx) (s2_5 : Cx) (s2_6 : Cx) (s2_7 : Int) : Option (Cx × Cx × Cx × Int × Cx × Cx × Int × Cx × Cx × Cx × Int) := (impl_LoadCurrentOf_1.f a0_0 a1_0 s2_0 s2_1 s2_2 s2_3 s2_4 s2_5 s2_6 s2_7).bind fun bt268 => ((impl_LoadCurrentOf_1.f a0_1 a1_1 bt268.2.1 bt268.2.2.1 bt268.2.2.2.1 bt268.2.2.2.2.1 bt268.2.2.2.2.2.1 bt268.2.2.2.2.2.2.1 bt268.2.2.2.2.2.2.2.1 bt268.2.2.2.2.2.2.2.2).bind fun bt277 => ((impl_LoadCurrentOf_1.f a0_2 a1_2 bt277.2.1 bt277.2.2.1 bt277.2.2.2.1 bt277.2.2.2.2.1 bt277.2.2.2.2.2.1 bt277.2.2.2.2.2.2.1 bt277.2.2.2.2.2.2.2.1 bt277.2.2.2.2.2.2.2.2).bind fun bt286 => (some (bt268.1, bt277.1, bt286.1, bt286.2.1, bt286.2.2.1, bt286.2.2.2.1, bt286.2.2.2.2.1, bt286.2.2.2.2.2.1, bt286.2.2.2.2.2.2.1, bt286.2.2.2.2.2.2.2.1, bt286.2.2.2.2.2.2.2.2))))
def impl_each_c169.T1 : Bool × List (List Nat × List Nat) := (true, [([], []), ([], []), ([1], [1]), ([], []), ([3], [3]), ([0, 2, 4], [0, 2, 4]), ([], []), ([], []), ([7], [7]), ([], []), ([9], [9]), ([6, 8, 10, 5], [6, 8, 10]), ([], []), ([], []), ([13], [13]), ([], []), ([15], [15]), ([12, 14, 16, 11], [12, 14, 16]), ([5, 11, 17], [5, 11, 17]), ([18, 17, 0, 1, 2, 3, 4, 5, 6, 7, 8, 9, 10, 11, 12, 13, 14, 15, 16, 17, 18], [18])])
def impl_each_c169.B1 : List Nat := [0, 0, 2, 0, 8, 31, 0, 0, 128, 0, 512, 2047, 0, 0, 8192, 0, 32768, 131071, 262143, 524287]
theorem impl_each_c169.tab1 : rtab .any (opsOf Try.f152 1) = impl_each_c169.T1 := by kernel_rfl
theorem impl_each_c169.bits1 : waitsOk impl_each_c169.T1.2 impl_each_c169.B1 = true := by kernel_rfl
set_option maxHeartbeats 8000000 in
set_option maxRecDepth 100000 in
theorem impl_each_c169.calls (a0_0 : Cx) (a0_1 : Cx) (a0_2 : Cx) (a1_0 : Cx) (a1_1 : Cx) (a1_2 : Cx) (g : Nat) (s2_0 : Int) (s2_1 : Cx) (s2_2 : Cx) (s2_3 : Int) (s2_4 : Cx) (s2_5 : Cx) (s2_6 : Cx) (s2_7 : Int) (r1 : Cx) (r2 : Cx) (r3 : Cx) (r4 : Int) (r5 : Cx) (r6 : Cx) (r7 : Int) (r8 : Cx) (r9 : Cx) (r10 : Cx) (r11 : Int) (w0 w : World) (hI : IsS66 w0 w g s2_0 s2_1 s2_2 s2_3 s2_4 s2_5 s2_6 s2_7) (hB : Below w0.heap.size w0 w) (h : impl_each_c169.f a0_0 a0_1 a0_2 a1_0 a1_1 a1_2 s2_0 s2_1 s2_2 s2_3 s2_4 s2_5 s2_6 s2_7 = some (r1, r2, r3, r4, r5, r6, r7, r8, r9, r10, r11)) :
  Calls Try.prog 152 #[.agg #[.complex .f32 a0_0.re a0_0.im, .complex .f32 a0_1.re a0_1.im, .complex .f32 a0_2.re a0_2.im], .agg #[.complex .f32 a1_0.re a1_0.im, .complex .f32 a1_1.re a1_1.im, .complex .f32 a1_2.re a1_2.im], .func (.func 169) #[] #[.pointer (some ⟨g, 0, none⟩)]] w fun e w' => e = .returned (.agg #[.complex .f32 r1.re r1.im, .complex .f32 r2.re r2.im, .complex .f32 r3.re r3.im]) ∧ IsS66 w0 w' g r4 r5 r6 r7 r8 r9 r10 r11 ∧ Below w0.heap.size w0 w' ∧ KeepBut w w' g none := by
 have hu39 := Try.underlying39
 have HI2 := Aside0.mk hI
 have HK := Aside0.mk (KeepBut.refl w g none)
 have HL := Aside0.mk hB.size
 clear hI
 have HW0 := Aside0.mk hB.size
 have HB := Aside0.mk hB
 clear hB
 have H : ((impl_LoadCurrentOf_1.f a0_0 a1_0 s2_0 s2_1 s2_2 s2_3 s2_4 s2_5 s2_6 s2_7).bind fun bt268 => ((impl_LoadCurrentOf_1.f a0_1 a1_1 bt268.2.1 bt268.2.2.1 bt268.2.2.2.1 bt268.2.2.2.2.1 bt268.2.2.2.2.2.1 bt268.2.2.2.2.2.2.1 bt268.2.2.2.2.2.2.2.1 bt268.2.2.2.2.2.2.2.2).bind fun bt277 => ((impl_LoadCurrentOf_1.f a0_2 a1_2 bt277.2.1 bt277.2.2.1 bt277.2.2.2.1 bt277.2.2.2.2.1 bt277.2.2.2.2.2.1 bt277.2.2.2.2.2.2.1 bt277.2.2.2.2.2.2.2.1 bt277.2.2.2.2.2.2.2.2).bind fun bt286 => (some (bt268.1, bt277.1, bt286.1, bt286.2.1, bt286.2.2.1, bt286.2.2.2.1, bt286.2.2.2.2.1, bt286.2.2.2.2.2.1, bt286.2.2.2.2.2.2.1, bt286.2.2.2.2.2.2.2.1, bt286.2.2.2.2.2.2.2.2))))) = some (r1, r2, r3, r4, r5, r6, r7, r8, r9, r10, r11) := h
 clear h
 replace H := Option.bind_eq_some_iff.mp H
 obtain ⟨⟨t268, t269, t270, t271, t272, t273, t274, t275, t276⟩, A40, H⟩ := H
 try dsimp only at H
 have A4 := Aside0.mk A40
 clear A40
 replace H := Option.bind_eq_some_iff.mp H
 obtain ⟨⟨t277, t278, t279, t280, t281, t282, t283, t284, t285⟩, A50, H⟩ := H
 try dsimp only at H
 have A5 := Aside0.mk A50
 clear A50
 replace H := Option.bind_eq_some_iff.mp H
 obtain ⟨⟨t286, t287, t288, t289, t290, t291, t292, t293, t294⟩, A60, H⟩ := H
 try dsimp only at H
 have A6 := Aside0.mk A60
 clear A60
 simp only [Option.some.injEq, Prod.mk.injEq] at H
 obtain ⟨rfl, rfl, rfl, rfl, rfl, rfl, rfl, rfl, rfl, rfl, rfl⟩ := H
 go_enter Try.func152, Try.ntmps152
 try go_wp2_with (first | ((with_reducible refine gate_dst (N := 3) rfl ?_); refine box_event ?hg (N := 3) ?hd (cs := #[.complex .f32 a0_0.re a0_0.im, .complex .f32 a0_1.re a0_1.im, .complex .f32 a0_2.re a0_2.im]) (t := 39) ?hr ?_; (case hd => rfl); (case hg => rfl); (case hr => first | (go_simp; done) | (go_simp; rfl)); intro gb265 hg w7 hbox hb; have n0_ := Aside0.mk (IsS66.below (by have hi_ := HI2.out; exact IsS66.up) hb); have n1_ := Aside0.mk (KeepBut.trans (by repeat (first | (with_reducible first | exact HK.out | apply KeepBut.set_ | apply keep_drewN | apply keep_drew | apply keep_alloc) | exact HK.out)) (KeepBut.of_below hb g none) (.inl rfl)); have n2_ := Aside0.mk (below_step (by have ge_ := IsS66.ge HI2.out; exact tb) hb); have n3_ := Aside0.mk (hbox); have n4_ := Aside0.mk ((by rw [hg]; exact (keep_size (w := w) (g := g) (row := none) (by repeat (first | (with_reducible first | exact HK.out | apply KeepBut.set_ | apply keep_drewN | apply keep_drew | apply keep_alloc) | exact HK.out))) : w.heap.size ≤ gb265)); have n5_ := Aside0.mk ((Nat.le_trans HW0.out (by rw [hg]; exact (keep_size (w := w) (g := g) (row := none) (by repeat (first | (with_reducible first | exact HK.out | apply KeepBut.set_ | apply keep_drewN | apply keep_drew | apply keep_alloc) | exact HK.out))) : w.heap.size ≤ gb265) : w0.heap.size ≤ gb265)); have n6_ := Aside0.mk ((by rw [hg]; exact Nat.ne_of_lt (IsS66.lt (show IsS66 w0 _ g s2_0 s2_1 s2_2 s2_3 s2_4 s2_5 s2_6 s2_7 from by have hi_ := HI2.out; exact IsS66.up)) : g ≠ gb265)); have n7_ := Aside0.mk ((by rw [hg]; exact Nat.ne_of_gt (IsS66.lt (show IsS66 w0 _ g s2_0 s2_1 s2_2 s2_3 s2_4 s2_5 s2_6 s2_7 from by have hi_ := HI2.out; exact IsS66.up)) : gb265 ≠ g)); clear HI2; clear HK; clear HB; have HI2 := n0_; have HK := n1_; have HB := n2_; have BK265 := n3_; have GW265 := n4_; have GE265 := n5_; have NB2_265 := n6_; have NB265_2 := n7_; clear n0_ n1_ n2_ n3_ n4_ n5_ n6_ n7_; clear hb hbox hg) | ((with_reducible refine gate_dst (N := 4) rfl ?_); refine box_event ?hg (N := 4) ?hd (cs := #[.complex .f32 a1_0.re a1_0.im, .complex .f32 a1_1.re a1_1.im, .complex .f32 a1_2.re a1_2.im]) (t := 39) ?hr ?_; (case hd => rfl); (case hg => rfl); (case hr => first | (go_simp; done) | (go_simp; rfl)); intro gb266 hg w8 hbox hb; have n0_ := Aside0.mk (IsS66.below (by have hi_ := HI2.out; exact IsS66.up) hb); have n1_ := Aside0.mk (blk_below (g := gb265) (o := .cells #[.complex .f32 a0_0.re a0_0.im, .complex .f32 a0_1.re a0_1.im, .complex .f32 a0_2.re a0_2.im] 39 (0, 0)) (bu BK265.out) hb); have n2_ := Aside0.mk (KeepBut.trans (by repeat (first | (with_reducible first | exact HK.out | apply KeepBut.set_ | apply keep_drewN | apply keep_drew | apply keep_alloc | refine keep_far ?_ GW265.out _) | exact HK.out)) (KeepBut.of_below hb g none) (.inl rfl)); have n3_ := Aside0.mk (below_step (by have ge_ := IsS66.ge HI2.out; exact tb) hb); have n4_ := Aside0.mk (hbox); have n5_ := Aside0.mk ((by rw [hg]; exact (keep_size (w := w) (g := g) (row := none) (by repeat (first | (with_reducible first | exact HK.out | apply KeepBut.set_ | apply keep_drewN | apply keep_drew | apply keep_alloc | refine keep_far ?_ GW265.out _) | exact HK.out))) : w.heap.size ≤ gb266)); have n6_ := Aside0.mk ((Nat.le_trans HW0.out (by rw [hg]; exact (keep_size (w := w) (g := g) (row := none) (by repeat (first | (with_reducible first | exact HK.out | apply KeepBut.set_ | apply keep_drewN | apply keep_drew | apply keep_alloc | refine keep_far ?_ GW265.out _) | exact HK.out))) : w.heap.size ≤ gb266) : w0.heap.size ≤ gb266)); have n7_ := Aside0.mk ((by rw [hg]; exact Nat.ne_of_lt (blk_lt (g := gb265) (o := .cells #[.complex .f32 a0_0.re a0_0.im, .complex .f32 a0_1.re a0_1.im, .complex .f32 a0_2.re a0_2.im] 39 (0, 0)) (bu BK265.out)) : gb265 ≠ gb266)); have n8_ := Aside0.mk ((by rw [hg]; exact Nat.ne_of_gt (blk_lt (g := gb265) (o := .cells #[.complex .f32 a0_0.re a0_0.im, .complex .f32 a0_1.re a0_1.im, .complex .f32 a0_2.re a0_2.im] 39 (0, 0)) (bu BK265.out)) : gb266 ≠ gb265)); have n9_ := Aside0.mk ((by rw [hg]; exact Nat.ne_of_lt (IsS66.lt (show IsS66 w0 _ g s2_0 s2_1 s2_2 s2_3 s2_4 s2_5 s2_6 s2_7 from by have hi_ := HI2.out; exact IsS66.up)) : g ≠ gb266)); have n10_ := Aside0.mk ((by rw [hg]; exact Nat.ne_of_gt (IsS66.lt (show IsS66 w0 _ g s2_0 s2_1 s2_2 s2_3 s2_4 s2_5 s2_6 s2_7 from by have hi_ := HI2.out; exact IsS66.up)) : gb266 ≠ g)); clear HI2; clear BK265; clear HK; clear HB; have HI2 := n0_; have BK265 := n1_; have HK := n2_; have HB := n3_; have BK266 := n4_; have GW266 := n5_; have GE266 := n6_; have NB265_266 := n7_; have NB266_265 := n8_; have NB2_266 := n9_; have NB266_2 := n10_; clear n0_ n1_ n2_ n3_ n4_ n5_ n6_ n7_ n8_ n9_ n10_; clear hb hbox hg) | ((with_reducible refine gate_dst (N := 6) rfl ?_); refine box_event ?hg (N := 6) ?hd (cs := #[.complex .f32 0 0, .complex .f32 0 0, .complex .f32 0 0]) (t := 39) ?hr ?_; (case hd => rfl); (case hg => rfl); (case hr => first | (go_simp; done) | (go_simp; rfl)); intro gb267 hg w9 hbox hb; have n0_ := Aside0.mk (IsS66.below (by have hi_ := HI2.out; exact IsS66.up) hb); have n1_ := Aside0.mk (blk_below (g := gb265) (o := .cells #[.complex .f32 a0_0.re a0_0.im, .complex .f32 a0_1.re a0_1.im, .complex .f32 a0_2.re a0_2.im] 39 (0, 0)) (bu BK265.out) hb); have n2_ := Aside0.mk (blk_below (g := gb266) (o := .cells #[.complex .f32 a1_0.re a1_0.im, .complex .f32 a1_1.re a1_1.im, .complex .f32 a1_2.re a1_2.im] 39 (0, 0)) (bu BK266.out) hb); have n3_ := Aside0.mk (KeepBut.trans (by repeat (first | (with_reducible first | exact HK.out | apply KeepBut.set_ | apply keep_drewN | apply keep_drew | apply keep_alloc | refine keep_far ?_ GW265.out _ | refine keep_far ?_ GW266.out _) | exact HK.out)) (KeepBut.of_below hb g none) (.inl rfl)); have n4_ := Aside0.mk (below_step (by have ge_ := IsS66.ge HI2.out; exact tb) hb); have n5_ := Aside0.mk (hbox); have n6_ := Aside0.mk ((by rw [hg]; exact (keep_size (w := w) (g := g) (row := none) (by repeat (first | (with_reducible first | exact HK.out | apply KeepBut.set_ | apply keep_drewN | apply keep_drew | apply keep_alloc | refine keep_far ?_ GW265.out _ | refine keep_far ?_ GW266.out _) | exact HK.out))) : w.heap.size ≤ gb267)); have n7_ := Aside0.mk ((Nat.le_trans HW0.out (by rw [hg]; exact (keep_size (w := w) (g := g) (row := none) (by repeat (first | (with_reducible first | exact HK.out | apply KeepBut.set_ | apply keep_drewN | apply keep_drew | apply keep_alloc | refine keep_far ?_ GW265.out _ | refine keep_far ?_ GW266.out _) | exact HK.out))) : w.heap.size ≤ gb267) : w0.heap.size ≤ gb267)); have n8_ := Aside0.mk ((by rw [hg]; exact Nat.ne_of_lt (blk_lt (g := gb265) (o := .cells #[.complex .f32 a0_0.re a0_0.im, .complex .f32 a0_1.re a0_1.im, .complex .f32 a0_2.re a0_2.im] 39 (0, 0)) (bu BK265.out)) : gb265 ≠ gb267)); have n9_ := Aside0.mk ((by rw [hg]; exact Nat.ne_of_gt (blk_lt (g := gb265) (o := .cells #[.complex .f32 a0_0.re a0_0.im, .complex .f32 a0_1.re a0_1.im, .complex .f32 a0_2.re a0_2.im] 39 (0, 0)) (bu BK265.out)) : gb267 ≠ gb265)); have n10_ := Aside0.mk ((by rw [hg]; exact Nat.ne_of_lt (blk_lt (g := gb266) (o := .cells #[.complex .f32 a1_0.re a1_0.im, .complex .f32 a1_1.re a1_1.im, .complex .f32 a1_2.re a1_2.im] 39 (0, 0)) (bu BK266.out)) : gb266 ≠ gb267)); have n11_ := Aside0.mk ((by rw [hg]; exact Nat.ne_of_gt (blk_lt (g := gb266) (o := .cells #[.complex .f32 a1_0.re a1_0.im, .complex .f32 a1_1.re a1_1.im, .complex .f32 a1_2.re a1_2.im] 39 (0, 0)) (bu BK266.out)) : gb267 ≠ gb266)); have n12_ := Aside0.mk ((by rw [hg]; exact Nat.ne_of_lt (IsS66.lt (show IsS66 w0 _ g s2_0 s2_1 s2_2 s2_3 s2_4 s2_5 s2_6 s2_7 from by have hi_ := HI2.out; exact IsS66.up)) : g ≠ gb267)); have n13_ := Aside0.mk ((by rw [hg]; exact Nat.ne_of_gt (IsS66.lt (show IsS66 w0 _ g s2_0 s2_1 s2_2 s2_3 s2_4 s2_5 s2_6 s2_7 from by have hi_ := HI2.out; exact IsS66.up)) : gb267 ≠ g)); clear HI2; clear BK265; clear BK266; clear HK; clear HB; have HI2 := n0_; have BK265 := n1_; have BK266 := n2_; have HK := n3_; have HB := n4_; have BK267 := n5_; have GW267 := n6_; have GE267 := n7_; have NB265_267 := n8_; have NB267_265 := n9_; have NB266_267 := n10_; have NB267_266 := n11_; have NB2_267 := n12_; have NB267_2 := n13_; clear n0_ n1_ n2_ n3_ n4_ n5_ n6_ n7_ n8_ n9_ n10_ n11_ n12_ n13_; clear hb hbox hg))
 have n0_ := Aside0.mk (blk_drew BK265.out)
 have n1_ := Aside0.mk (blk_drew BK266.out)
 have n2_ := Aside0.mk (blk_drew BK267.out)
 have n3_ := Aside0.mk (IsS66.drew HI2.out)
 have n4_ := Aside0.mk (keep_drew HK.out)
 have n5_ := Aside0.mk (below_drew1 HB.out)
 clear BK265
 clear BK266
 clear BK267
 clear HI2
 clear HK
 clear HB
 have BK265 := n0_
 have BK266 := n1_
 have BK267 := n2_
 have HI2 := n3_
 have HK := n4_
 have HB := n5_
 clear n0_ n1_ n2_ n3_ n4_ n5_
 refine start_ (n := 20) (S := fun w' => w'.cell? ⟨gb265, 0, none⟩ = some (.complex .f32 a0_0.re a0_0.im) ∧ w'.cell? ⟨gb265, 1, none⟩ = some (.complex .f32 a0_1.re a0_1.im) ∧ w'.cell? ⟨gb265, 2, none⟩ = some (.complex .f32 a0_2.re a0_2.im) ∧ w'.cell? ⟨gb266, 0, none⟩ = some (.complex .f32 a1_0.re a1_0.im) ∧ w'.cell? ⟨gb266, 1, none⟩ = some (.complex .f32 a1_1.re a1_1.im) ∧ w'.cell? ⟨gb266, 2, none⟩ = some (.complex .f32 a1_2.re a1_2.im)) (ds := []) #[false, false, false, false, false, false, false, false, false, false, false, false, false, false, false, false, false, false, false, false] (by kernel_rfl) rfl rfl ⟨(blk_cell BK265.out 0).trans rfl, (blk_cell BK265.out 1).trans rfl, (blk_cell BK265.out 2).trans rfl, (blk_cell BK266.out 0).trans rfl, (blk_cell BK266.out 1).trans rfl, (blk_cell BK266.out 2).trans rfl⟩ (fun hHeld => ?_); refine with_tabW impl_each_c169.tab1 impl_each_c169.bits1 (fun HT_ HW_ => ?_)
 generalize w9.drew = w10 at BK265 BK266 BK267 HI2 HK HB hHeld ⊢
 refine pure_ (i := 0) (N := some 7) (v := ?_) (a' := ?_) #[true, false, false, false, false, false, false, false, false, false, false, false, false, false, false, false, false, false, false, false] rfl rfl (any_of HT_.out (by kernel_rfl)) (fun _ _ _ h => h) (Or.inl ⟨by rfl, ?_⟩) ?_ ?_
 rotate_left
 ·intro w'
  go_simp
  with_reducible rfl
 rotate_left
 ·refine ps_ ?_
  rfl
 refine pure_ (i := 1) (N := some 8) (v := ?_) (a' := ?_) #[true, true, false, false, false, false, false, false, false, false, false, false, false, false, false, false, false, false, false, false] rfl rfl (any_of HT_.out (by kernel_rfl)) (fun _ _ _ h => h) (Or.inl ⟨by rfl, ?_⟩) ?_ ?_
 rotate_left
 ·intro w'
  go_simp
  with_reducible rfl
 rotate_left
 ·refine ps_ ?_
  rfl
 refine pure_ (i := 3) (N := some 10) (v := ?_) (a' := ?_) #[true, true, false, true, false, false, false, false, false, false, false, false, false, false, false, false, false, false, false, false] rfl rfl (any_of HT_.out (by kernel_rfl)) (fun _ _ _ h => h) (Or.inl ⟨by rfl, ?_⟩) ?_ ?_
 rotate_left
 ·intro w'
  go_simp
  with_reducible rfl
 rotate_left
 ·refine ps_ ?_
  rfl
 refine pure_ (i := 6) (N := some 13) (v := ?_) (a' := ?_) #[true, true, false, true, false, false, true, false, false, false, false, false, false, false, false, false, false, false, false, false] rfl rfl (any_of HT_.out (by kernel_rfl)) (fun _ _ _ h => h) (Or.inl ⟨by rfl, ?_⟩) ?_ ?_
 rotate_left
 ·intro w'
  go_simp
  with_reducible rfl
 rotate_left
 ·refine ps_ ?_
  rfl
 refine pure_ (i := 7) (N := some 14) (v := ?_) (a' := ?_) #[true, true, false, true, false, false, true, true, false, false, false, false, false, false, false, false, false, false, false, false] rfl rfl (any_of HT_.out (by kernel_rfl)) (fun _ _ _ h => h) (Or.inl ⟨by rfl, ?_⟩) ?_ ?_
 rotate_left
 ·intro w'
  go_simp
  with_reducible rfl
 rotate_left
 ·refine ps_ ?_
  rfl
 refine pure_ (i := 9) (N := some 16) (v := ?_) (a' := ?_) #[true, true, false, true, false, false, true, true, false, true, false, false, false, false, false, false, false, false, false, false] rfl rfl (any_of HT_.out (by kernel_rfl)) (fun _ _ _ h => h) (Or.inl ⟨by rfl, ?_⟩) ?_ ?_
 rotate_left
 ·intro w'
  go_simp
  with_reducible rfl
 rotate_left
 ·refine ps_ ?_
  rfl
 refine pure_ (i := 12) (N := some 19) (v := ?_) (a' := ?_) #[true, true, false, true, false, false, true, true, false, true, false, false, true, false, false, false, false, false, false, false] rfl rfl (any_of HT_.out (by kernel_rfl)) (fun _ _ _ h => h) (Or.inl ⟨by rfl, ?_⟩) ?_ ?_
 rotate_left
 ·intro w'
  go_simp
  with_reducible rfl
 rotate_left
 ·refine ps_ ?_
  rfl
 refine pure_ (i := 13) (N := some 20) (v := ?_) (a' := ?_) #[true, true, false, true, false, false, true, true, false, true, false, false, true, true, false, false, false, false, false, false] rfl rfl (any_of HT_.out (by kernel_rfl)) (fun _ _ _ h => h) (Or.inl ⟨by rfl, ?_⟩) ?_ ?_
 rotate_left
 ·intro w'
  go_simp
  with_reducible rfl
 rotate_left
 ·refine ps_ ?_
  rfl
 refine pure_ (i := 15) (N := some 22) (v := ?_) (a' := ?_) #[true, true, false, true, false, false, true, true, false, true, false, false, true, true, false, true, false, false, false, false] rfl rfl (any_of HT_.out (by kernel_rfl)) (fun _ _ _ h => h) (Or.inl ⟨by rfl, ?_⟩) ?_ ?_
 rotate_left
 ·intro w'
  go_simp
  with_reducible rfl
 rotate_left
 ·refine ps_ ?_
  rfl
 refine take_ (i := 2) (N := some 9) (v := ?_) (a' := ?_) #[true, true, true, true, false, false, true, true, false, true, false, false, true, true, false, true, false, false, false, false] rfl rfl (take_ofW HT_.out HW_.out (by kernel_rfl)) (fun _ _ _ h => h) (Or.inl ⟨by rfl, ?_⟩) hHeld ?_ ?_
 rotate_left
 ·rintro w' ⟨s0, s1, s2, s3, s4, s5⟩
  go_simp
  with_reducible rfl
 rotate_left
 ·refine ps_ ?_
  rfl
 refine take_ (i := 4) (N := some 11) (v := ?_) (a' := ?_) #[true, true, true, true, true, false, true, true, false, true, false, false, true, true, false, true, false, false, false, false] rfl rfl (take_ofW HT_.out HW_.out (by kernel_rfl)) (fun _ _ _ h => h) (Or.inl ⟨by rfl, ?_⟩) hHeld ?_ ?_
 rotate_left
 ·rintro w' ⟨s0, s1, s2, s3, s4, s5⟩
  go_simp
  with_reducible rfl
 rotate_left
 ·refine ps_ ?_
  rfl
 refine take_ (i := 8) (N := some 15) (v := ?_) (a' := ?_) #[true, true, true, true, true, false, true, true, true, true, false, false, true, true, false, true, false, false, false, false] rfl rfl (take_ofW HT_.out HW_.out (by kernel_rfl)) (fun _ _ _ h => h) (Or.inl ⟨by rfl, ?_⟩) hHeld ?_ ?_
 rotate_left
 ·rintro w' ⟨s0, s1, s2, s3, s4, s5⟩
  go_simp
  with_reducible rfl
 rotate_left
 ·refine ps_ ?_
  rfl
 refine take_ (i := 10) (N := some 17) (v := ?_) (a' := ?_) #[true, true, true, true, true, false, true, true, true, true, true, false, true, true, false, true, false, false, false, false] rfl rfl (take_ofW HT_.out HW_.out (by kernel_rfl)) (fun _ _ _ h => h) (Or.inl ⟨by rfl, ?_⟩) hHeld ?_ ?_
 rotate_left
 ·rintro w' ⟨s0, s1, s2, s3, s4, s5⟩
  go_simp
  with_reducible rfl
 rotate_left
 ·refine ps_ ?_
  rfl
 refine take_ (i := 14) (N := some 21) (v := ?_) (a' := ?_) #[true, true, true, true, true, false, true, true, true, true, true, false, true, true, true, true, false, false, false, false] rfl rfl (take_ofW HT_.out HW_.out (by kernel_rfl)) (fun _ _ _ h => h) (Or.inl ⟨by rfl, ?_⟩) hHeld ?_ ?_
 rotate_left
 ·rintro w' ⟨s0, s1, s2, s3, s4, s5⟩
  go_simp
  with_reducible rfl
 rotate_left
 ·refine ps_ ?_
  rfl
 refine take_ (i := 16) (N := some 23) (v := ?_) (a' := ?_) #[true, true, true, true, true, false, true, true, true, true, true, false, true, true, true, true, true, false, false, false] rfl rfl (take_ofW HT_.out HW_.out (by kernel_rfl)) (fun _ _ _ h => h) (Or.inl ⟨by rfl, ?_⟩) hHeld ?_ ?_
 rotate_left
 ·rintro w' ⟨s0, s1, s2, s3, s4, s5⟩
  go_simp
  with_reducible rfl
 rotate_left
 ·refine ps_ ?_
  rfl
 refine one_ (i := 5) (N := some 12) #[true, true, true, true, true, true, true, true, true, true, true, false, true, true, true, true, true, false, false, false] rfl rfl (one_of HT_.out (by kernel_rfl)) (by decide) (fun K hK => ?_)
 refine goesD_ Try.func169 (by kernel_rfl) rfl #[.complex .f32 a0_0.re a0_0.im, .complex .f32 a1_0.re a1_0.im, .pointer (some ⟨g, 0, none⟩)] (by rfl) rfl rfl (by rfl) mp_ ?_
 with_reducible refine (impl_LoadCurrentOf_1.calls a0_0 a1_0 g s2_0 s2_1 s2_2 s2_3 s2_4 s2_5 s2_6 s2_7 t268 t269 t270 t271 t272 t273 t274 t275 t276 w0 _ ?side1 ?side2 A4.out).mono ?_
 (case side1 => have hi_ := HI2.out; exact IsS66.up)
 (case side2 => have ge_ := IsS66.ge HI2.out; exact tb)
 rintro e w11 ⟨rfl, hi, hb, hk⟩
 refine ⟨_, rfl, ?_⟩
 have n0_ := Aside0.mk (KeepBut.blk hk (g' := gb265) (o := .cells #[.complex .f32 a0_0.re a0_0.im, .complex .f32 a0_1.re a0_1.im, .complex .f32 a0_2.re a0_2.im] 39 (0, 0)) (bu BK265.out) NB265_2.out (by simp))
 have n1_ := Aside0.mk (KeepBut.blk hk (g' := gb266) (o := .cells #[.complex .f32 a1_0.re a1_0.im, .complex .f32 a1_1.re a1_1.im, .complex .f32 a1_2.re a1_2.im] 39 (0, 0)) (bu BK266.out) NB266_2.out (by simp))
 have n2_ := Aside0.mk (KeepBut.blk hk (g' := gb267) (o := .cells #[.complex .f32 0 0, .complex .f32 0 0, .complex .f32 0 0] 39 (0, 0)) (bu BK267.out) NB267_2.out (by simp))
 have n3_ := Aside0.mk (KeepBut.trans (by repeat (first | (with_reducible first | exact HK.out | apply KeepBut.set_ | apply keep_drewN | apply keep_drew | apply keep_alloc | refine keep_far ?_ GW265.out _ | refine keep_far ?_ GW266.out _ | refine keep_far ?_ GW267.out _) | exact HK.out)) hk (.inl rfl))
 have n4_ := Aside0.mk (hb)
 have n5_ := Aside0.mk (hi)
 clear BK265
 clear BK266
 clear BK267
 clear HK
 clear HB
 clear HI2
 have BK265 := n0_
 have BK266 := n1_
 have BK267 := n2_
 have HK := n3_
 have HB := n4_
 have HI2 := n5_
 clear n0_ n1_ n2_ n3_ n4_ n5_
 (try clear hb)
 (try clear hb2)
 (try clear hk)
 (try clear hi)
 refine hK.out _ _ ⟨(blk_cell BK265.out 0).trans rfl, (blk_cell BK265.out 1).trans rfl, (blk_cell BK265.out 2).trans rfl, (blk_cell BK266.out 0).trans rfl, (blk_cell BK266.out 1).trans rfl, (blk_cell BK266.out 2).trans rfl⟩ (fun hHeld => ?_)
 clear hK K
 refine norm_ (a' := ?_) ?_ ?_
 rotate_left
 ·show Act.put _ (some 12) _ = _
  refine ps_ ?_
  rfl
 refine one_ (i := 11) (N := some 18) #[true, true, true, true, true, true, true, true, true, true, true, true, true, true, true, true, true, false, false, false] rfl rfl (one_of HT_.out (by kernel_rfl)) (by decide) (fun K hK => ?_)
 refine goesD_ Try.func169 (by kernel_rfl) rfl #[.complex .f32 a0_1.re a0_1.im, .complex .f32 a1_1.re a1_1.im, .pointer (some ⟨g, 0, none⟩)] (by rfl) rfl rfl (by rfl) mp_ ?_
 with_reducible refine (impl_LoadCurrentOf_1.calls a0_1 a1_1 g t269 t270 t271 t272 t273 t274 t275 t276 t277 t278 t279 t280 t281 t282 t283 t284 t285 w0 _ ?side1 ?side2 A5.out).mono ?_
 (case side1 => have hi_ := HI2.out; exact IsS66.up)
 (case side2 => have ge_ := IsS66.ge HI2.out; exact tb)
 rintro e w12 ⟨rfl, hi, hb, hk⟩
 refine ⟨_, rfl, ?_⟩
 have n0_ := Aside0.mk (KeepBut.blk hk (g' := gb265) (o := .cells #[.complex .f32 a0_0.re a0_0.im, .complex .f32 a0_1.re a0_1.im, .complex .f32 a0_2.re a0_2.im] 39 (0, 0)) (bu BK265.out) NB265_2.out (by simp))
 have n1_ := Aside0.mk (KeepBut.blk hk (g' := gb266) (o := .cells #[.complex .f32 a1_0.re a1_0.im, .complex .f32 a1_1.re a1_1.im, .complex .f32 a1_2.re a1_2.im] 39 (0, 0)) (bu BK266.out) NB266_2.out (by simp))
 have n2_ := Aside0.mk (KeepBut.blk hk (g' := gb267) (o := .cells #[.complex .f32 0 0, .complex .f32 0 0, .complex .f32 0 0] 39 (0, 0)) (bu BK267.out) NB267_2.out (by simp))
 have n3_ := Aside0.mk (KeepBut.trans (by repeat (first | (with_reducible first | exact HK.out | apply KeepBut.set_ | apply keep_drewN | apply keep_drew | apply keep_alloc | refine keep_far ?_ GW265.out _ | refine keep_far ?_ GW266.out _ | refine keep_far ?_ GW267.out _) | exact HK.out)) hk (.inl rfl))
 have n4_ := Aside0.mk (hb)
 have n5_ := Aside0.mk (hi)
 clear BK265
 clear BK266
 clear BK267
 clear HK
 clear HB
 clear HI2
 have BK265 := n0_
 have BK266 := n1_
 have BK267 := n2_
 have HK := n3_
 have HB := n4_
 have HI2 := n5_
 clear n0_ n1_ n2_ n3_ n4_ n5_
 (try clear hb)
 (try clear hb2)
 (try clear hk)
 (try clear hi)
 refine hK.out _ _ ⟨(blk_cell BK265.out 0).trans rfl, (blk_cell BK265.out 1).trans rfl, (blk_cell BK265.out 2).trans rfl, (blk_cell BK266.out 0).trans rfl, (blk_cell BK266.out 1).trans rfl, (blk_cell BK266.out 2).trans rfl⟩ (fun hHeld => ?_)
 clear hK K
 refine norm_ (a' := ?_) ?_ ?_
 rotate_left
 ·show Act.put _ (some 18) _ = _
  refine ps_ ?_
  rfl
 refine one_ (i := 17) (N := some 24) #[true, true, true, true, true, true, true, true, true, true, true, true, true, true, true, true, true, true, false, false] rfl rfl (one_of HT_.out (by kernel_rfl)) (by decide) (fun K hK => ?_)
 refine goesD_ Try.func169 (by kernel_rfl) rfl #[.complex .f32 a0_2.re a0_2.im, .complex .f32 a1_2.re a1_2.im, .pointer (some ⟨g, 0, none⟩)] (by rfl) rfl rfl (by rfl) mp_ ?_
 with_reducible refine (impl_LoadCurrentOf_1.calls a0_2 a1_2 g t278 t279 t280 t281 t282 t283 t284 t285 t286 t287 t288 t289 t290 t291 t292 t293 t294 w0 _ ?side1 ?side2 A6.out).mono ?_
 (case side1 => have hi_ := HI2.out; exact IsS66.up)
 (case side2 => have ge_ := IsS66.ge HI2.out; exact tb)
 rintro e w13 ⟨rfl, hi, hb, hk⟩
 refine ⟨_, rfl, ?_⟩
 have n0_ := Aside0.mk (KeepBut.blk hk (g' := gb265) (o := .cells #[.complex .f32 a0_0.re a0_0.im, .complex .f32 a0_1.re a0_1.im, .complex .f32 a0_2.re a0_2.im] 39 (0, 0)) (bu BK265.out) NB265_2.out (by simp))
 have n1_ := Aside0.mk (KeepBut.blk hk (g' := gb266) (o := .cells #[.complex .f32 a1_0.re a1_0.im, .complex .f32 a1_1.re a1_1.im, .complex .f32 a1_2.re a1_2.im] 39 (0, 0)) (bu BK266.out) NB266_2.out (by simp))
 have n2_ := Aside0.mk (KeepBut.blk hk (g' := gb267) (o := .cells #[.complex .f32 0 0, .complex .f32 0 0, .complex .f32 0 0] 39 (0, 0)) (bu BK267.out) NB267_2.out (by simp))
 have n3_ := Aside0.mk (KeepBut.trans (by repeat (first | (with_reducible first | exact HK.out | apply KeepBut.set_ | apply keep_drewN | apply keep_drew | apply keep_alloc | refine keep_far ?_ GW265.out _ | refine keep_far ?_ GW266.out _ | refine keep_far ?_ GW267.out _) | exact HK.out)) hk (.inl rfl))
 have n4_ := Aside0.mk (hb)
 have n5_ := Aside0.mk (hi)
 clear BK265
 clear BK266
 clear BK267
 clear HK
 clear HB
 clear HI2
 have BK265 := n0_
 have BK266 := n1_
 have BK267 := n2_
 have HK := n3_
 have HB := n4_
 have HI2 := n5_
 clear n0_ n1_ n2_ n3_ n4_ n5_
 (try clear hb)
 (try clear hb2)
 (try clear hk)
 (try clear hi)
 refine hK.out _ _ ⟨(blk_cell BK265.out 0).trans rfl, (blk_cell BK265.out 1).trans rfl, (blk_cell BK265.out 2).trans rfl, (blk_cell BK266.out 0).trans rfl, (blk_cell BK266.out 1).trans rfl, (blk_cell BK266.out 2).trans rfl⟩ (fun hHeld => ?_)
 clear hK K
 refine norm_ (a' := ?_) ?_ ?_
 rotate_left
 ·show Act.put _ (some 24) _ = _
  refine ps_ ?_
  rfl
 refine pure_ (i := 18) (N := some 25) (v := ?_) (a' := ?_) #[true, true, true, true, true, true, true, true, true, true, true, true, true, true, true, true, true, true, true, false] rfl rfl (any_of HT_.out (by kernel_rfl)) (fun _ _ _ h => h) (Or.inl ⟨by rfl, ?_⟩) ?_ ?_
 rotate_left
 ·intro w'
  go_simp
  with_reducible rfl
 rotate_left
 ·refine ps_ ?_
  rfl
 refine one_ (i := 19) (N := none) #[true, true, true, true, true, true, true, true, true, true, true, true, true, true, true, true, true, true, true, true] rfl rfl (one_of HT_.out (by kernel_rfl)) (by decide) (fun K hK => ?_)
 have hs14 : w13.cell? ⟨gb267, 0, none⟩ = some (.complex .f32 0 0) := (blk_cell BK267.out 0).trans rfl
 have hfs14 := blk_frozen BK267.out 0
 have hns14_0 := NB265_267.out
 have hns14_1 := NB266_267.out
 have hms14_0 := NB267_265.out
 have hms14_1 := NB267_266.out
 have hs15 : w13.cell? ⟨gb267, 1, none⟩ = some (.complex .f32 0 0) := (blk_cell BK267.out 1).trans rfl
 have hfs15 := blk_frozen BK267.out 1
 have hns15_0 := NB265_267.out
 have hns15_1 := NB266_267.out
 have hms15_0 := NB267_265.out
 have hms15_1 := NB267_266.out
 have hs16 : w13.cell? ⟨gb267, 2, none⟩ = some (.complex .f32 0 0) := (blk_cell BK267.out 2).trans rfl
 have hfs16 := blk_frozen BK267.out 2
 have hns16_0 := NB265_267.out
 have hns16_1 := NB266_267.out
 have hms16_0 := NB267_265.out
 have hms16_1 := NB267_266.out
 refine skip_ (w1 := ?_) (by rfl) rfl ?_ ?_
 rotate_left
 ·go_simp
  rfl
 refine hK.out _ _ ⟨((cell_far (p := ⟨gb267, _, none⟩) NB265_267.out _).trans (((cell_far (p := ⟨gb267, _, none⟩) NB265_267.out _).trans (((cell_far (p := ⟨gb267, _, none⟩) NB265_267.out _).trans (hHeld.1)))))), ((cell_far (p := ⟨gb267, _, none⟩) NB265_267.out _).trans (((cell_far (p := ⟨gb267, _, none⟩) NB265_267.out _).trans (((cell_far (p := ⟨gb267, _, none⟩) NB265_267.out _).trans (hHeld.2.1)))))), ((cell_far (p := ⟨gb267, _, none⟩) NB265_267.out _).trans (((cell_far (p := ⟨gb267, _, none⟩) NB265_267.out _).trans (((cell_far (p := ⟨gb267, _, none⟩) NB265_267.out _).trans (hHeld.2.2.1)))))), ((cell_far (p := ⟨gb267, _, none⟩) NB266_267.out _).trans (((cell_far (p := ⟨gb267, _, none⟩) NB266_267.out _).trans (((cell_far (p := ⟨gb267, _, none⟩) NB266_267.out _).trans (hHeld.2.2.2.1)))))), ((cell_far (p := ⟨gb267, _, none⟩) NB266_267.out _).trans (((cell_far (p := ⟨gb267, _, none⟩) NB266_267.out _).trans (((cell_far (p := ⟨gb267, _, none⟩) NB266_267.out _).trans (hHeld.2.2.2.2.1)))))), ((cell_far (p := ⟨gb267, _, none⟩) NB266_267.out _).trans (((cell_far (p := ⟨gb267, _, none⟩) NB266_267.out _).trans (((cell_far (p := ⟨gb267, _, none⟩) NB266_267.out _).trans (hHeld.2.2.2.2.2))))))⟩ (fun hHeld => ?_)
 clear hK K
 refine done_ (done_of HT_.out (by kernel_rfl)) ?_
 try go_wp2
 refine bodyPost_ret (results_cell_row rfl _ _ gb267 39 #[.complex .f32 t268.re t268.im, .complex .f32 t277.re t277.im, .complex .f32 t286.re t286.im] (0, 0) _ rfl (by refine bu ?_; refine blk_put (cs := #[.complex .f32 t268.re t268.im, .complex .f32 t277.re t277.im, .complex .f32 0 0]) ?_ 2 _ rfl; refine bu ?_; refine blk_put (cs := #[.complex .f32 t268.re t268.im, .complex .f32 0 0, .complex .f32 0 0]) ?_ 1 _ rfl; refine bu ?_; refine blk_put (cs := #[.complex .f32 0 0, .complex .f32 0 0, .complex .f32 0 0]) ?_ 0 _ rfl; refine bu ?_; exact BK267.out) Try.underlying39 rfl (by kernel_rfl)) rfl ?_
 exact ⟨re_, by have hi_ := HI2.out; exact IsS66.up, by have ge_ := IsS66.ge HI2.out; exact tb, by repeat (first | (with_reducible first | exact HK.out | apply KeepBut.set_ | apply keep_drewN | apply keep_drew | apply keep_alloc | refine keep_far ?_ GW265.out _ | refine keep_far ?_ GW266.out _ | refine keep_far ?_ GW267.out _) | exact HK.out)⟩

end Go.Proofs.Ytcgpomicgbmdlaa.PFnBanks
namespace Go.Proofs.Ytcgpomicgbmdlaa.PFnBanks
open Go.RowKit Go.Proofs.YtcgpomicgbmdlaaW.PrintWords Go.Proofs.YtcgpomicgbmdlaaW.PrintLast Go.Proofs.YtcgpomicgbmdlaaW.PrintMore
attribute [local go_sem] max2_int min2_int max_two min_two max_three min_three max_four min_four   -- for this text's walks alone
set_option linter.unusedVariables false
set_option linter.unusedSimpArgs false

/-! ### impl_LoadCurrentOf: function 150 -/
def impl_LoadCurrentOf.f (a0_0 : Int) (a0_1 : Cx) (a0_2 : Cx) (a0_3 : Int) (a0_4 : Cx) (a0_5 : Cx) (a0_6 : Cx) (a0_7 : Int) (a1_0 : Cx) (a1_1 : Cx) (a1_2 : Cx) : Option (Cx × Cx × Cx) := (impl_each_c169.f a0_4 a0_5 a0_6 a1_0 a1_1 a1_2 a0_0 a0_1 a0_2 a0_3 a0_4 a0_5 a0_6 a0_7).bind fun bt298 => (some (bt298.1, bt298.2.1, bt298.2.2.1))
set_option maxHeartbeats 8000000 in
set_option maxRecDepth 100000 in
theorem impl_LoadCurrentOf.calls (a0_0 : Int) (a0_1 : Cx) (a0_2 : Cx) (a0_3 : Int) (a0_4 : Cx) (a0_5 : Cx) (a0_6 : Cx) (a0_7 : Int) (a1_0 : Cx) (a1_1 : Cx) (a1_2 : Cx) (r1 : Cx) (r2 : Cx) (r3 : Cx) (w : World) (h : impl_LoadCurrentOf.f a0_0 a0_1 a0_2 a0_3 a0_4 a0_5 a0_6 a0_7 a1_0 a1_1 a1_2 = some (r1, r2, r3)) :
  Calls Try.prog 150 #[.agg #[.int .i64 a0_0, .complex .f32 a0_1.re a0_1.im, .complex .f32 a0_2.re a0_2.im, .int .i64 a0_3, .complex .f32 a0_4.re a0_4.im, .complex .f32 a0_5.re a0_5.im, .complex .f32 a0_6.re a0_6.im, .int .i64 a0_7], .agg #[.complex .f32 a1_0.re a1_0.im, .complex .f32 a1_1.re a1_1.im, .complex .f32 a1_2.re a1_2.im]] w fun e w' => e = .returned (.agg #[.complex .f32 r1.re r1.im, .complex .f32 r2.re r2.im, .complex .f32 r3.re r3.im]) ∧ Below w.heap.size w w' := by
 have hu66 := Try.underlying66
 have hu39 := Try.underlying39
 have HB := Aside0.mk (Below.refl w.heap.size w)
 have H : ((impl_each_c169.f a0_4 a0_5 a0_6 a1_0 a1_1 a1_2 a0_0 a0_1 a0_2 a0_3 a0_4 a0_5 a0_6 a0_7).bind fun bt298 => (some (bt298.1, bt298.2.1, bt298.2.2.1))) = some (r1, r2, r3) := h
 clear h
 replace H := Option.bind_eq_some_iff.mp H
 obtain ⟨⟨t298, t299, t300, t301, t302, t303, t304, t305, t306, t307, t308⟩, A30, H⟩ := H
 try dsimp only at H
 have A3 := Aside0.mk A30
 clear A30
 simp only [Option.some.injEq, Prod.mk.injEq] at H
 obtain ⟨rfl, rfl, rfl⟩ := H
 go_enter Try.func150, Try.ntmps150
 go_wp2_with (first | ((with_reducible refine gate_dst (N := 2) rfl ?_); refine box_event ?hg (N := 2) ?hd (cs := #[.int .i64 a0_0, .complex .f32 a0_1.re a0_1.im, .complex .f32 a0_2.re a0_2.im, .int .i64 a0_3, .complex .f32 a0_4.re a0_4.im, .complex .f32 a0_5.re a0_5.im, .complex .f32 a0_6.re a0_6.im, .int .i64 a0_7]) (t := 66) ?hr ?_; (case hd => rfl); (case hg => rfl); (case hr => first | (go_simp; done) | (go_simp; rfl)); intro gb295 hg w4 hbox hb; have n0_ := Aside0.mk (below_step tb hb); have n1_ := Aside0.mk (hbox); have n2_ := Aside0.mk ((by rw [hg]; exact (below_size tb) : w.heap.size ≤ gb295)); have n3_ := Aside0.mk ((by rw [hg]; exact (below_size tb) : w.heap.size ≤ gb295)); clear HB; have HB := n0_; have BK295 := n1_; have GW295 := n2_; have GE295 := n3_; clear n0_ n1_ n2_ n3_; clear hb hbox hg; have HI295 := Aside0.mk (show IsS66 w _ gb295 a0_0 a0_1 a0_2 a0_3 a0_4 a0_5 a0_6 a0_7 from ⟨BK295.out, (by first | exact GE295.out | exact GW295.out)⟩)) | ((with_reducible refine gate_dst (N := 3) rfl ?_); refine box_event ?hg (N := 3) ?hd (cs := #[.complex .f32 a1_0.re a1_0.im, .complex .f32 a1_1.re a1_1.im, .complex .f32 a1_2.re a1_2.im]) (t := 39) ?hr ?_; (case hd => rfl); (case hg => rfl); (case hr => first | (go_simp; done) | (go_simp; rfl)); intro gb296 hg w5 hbox hb; have n0_ := Aside0.mk (IsS66.below (by have hi_ := HI295.out; exact IsS66.up) hb); have n1_ := Aside0.mk (below_step (by have ge_ := IsS66.ge HI295.out; exact tb) hb); have n2_ := Aside0.mk (hbox); have n3_ := Aside0.mk ((by rw [hg]; exact (below_size (by have ge_ := IsS66.ge HI295.out; exact tb)) : w.heap.size ≤ gb296)); have n4_ := Aside0.mk ((by rw [hg]; exact (below_size (by have ge_ := IsS66.ge HI295.out; exact tb)) : w.heap.size ≤ gb296)); have n5_ := Aside0.mk ((by rw [hg]; exact Nat.ne_of_lt (IsS66.lt (show IsS66 w _ gb295 a0_0 a0_1 a0_2 a0_3 a0_4 a0_5 a0_6 a0_7 from by have hi_ := HI295.out; exact IsS66.up)) : gb295 ≠ gb296)); have n6_ := Aside0.mk ((by rw [hg]; exact Nat.ne_of_gt (IsS66.lt (show IsS66 w _ gb295 a0_0 a0_1 a0_2 a0_3 a0_4 a0_5 a0_6 a0_7 from by have hi_ := HI295.out; exact IsS66.up)) : gb296 ≠ gb295)); clear HI295; clear HB; have HI295 := n0_; have HB := n1_; have BK296 := n2_; have GW296 := n3_; have GE296 := n4_; have NB295_296 := n5_; have NB296_295 := n6_; clear n0_ n1_ n2_ n3_ n4_ n5_ n6_; clear hb hbox hg) | ((with_reducible refine gate_dst (N := 4) rfl ?_); refine box_event ?hg (N := 4) ?hd (cs := #[.complex .f32 0 0, .complex .f32 0 0, .complex .f32 0 0]) (t := 39) ?hr ?_; (case hd => rfl); (case hg => rfl); (case hr => first | (go_simp; done) | (go_simp; rfl)); intro gb297 hg w6 hbox hb; have n0_ := Aside0.mk (IsS66.below (by have hi_ := HI295.out; exact IsS66.up) hb); have n1_ := Aside0.mk (blk_below (g := gb296) (o := .cells #[.complex .f32 a1_0.re a1_0.im, .complex .f32 a1_1.re a1_1.im, .complex .f32 a1_2.re a1_2.im] 39 (0, 0)) (bu BK296.out) hb); have n2_ := Aside0.mk (below_step (by have ge_ := IsS66.ge HI295.out; exact tb) hb); have n3_ := Aside0.mk (hbox); have n4_ := Aside0.mk ((by rw [hg]; exact (below_size (by have ge_ := IsS66.ge HI295.out; exact tb)) : w.heap.size ≤ gb297)); have n5_ := Aside0.mk ((by rw [hg]; exact (below_size (by have ge_ := IsS66.ge HI295.out; exact tb)) : w.heap.size ≤ gb297)); have n6_ := Aside0.mk ((by rw [hg]; exact Nat.ne_of_lt (blk_lt (g := gb296) (o := .cells #[.complex .f32 a1_0.re a1_0.im, .complex .f32 a1_1.re a1_1.im, .complex .f32 a1_2.re a1_2.im] 39 (0, 0)) (bu BK296.out)) : gb296 ≠ gb297)); have n7_ := Aside0.mk ((by rw [hg]; exact Nat.ne_of_gt (blk_lt (g := gb296) (o := .cells #[.complex .f32 a1_0.re a1_0.im, .complex .f32 a1_1.re a1_1.im, .complex .f32 a1_2.re a1_2.im] 39 (0, 0)) (bu BK296.out)) : gb297 ≠ gb296)); have n8_ := Aside0.mk ((by rw [hg]; exact Nat.ne_of_lt (IsS66.lt (show IsS66 w _ gb295 a0_0 a0_1 a0_2 a0_3 a0_4 a0_5 a0_6 a0_7 from by have hi_ := HI295.out; exact IsS66.up)) : gb295 ≠ gb297)); have n9_ := Aside0.mk ((by rw [hg]; exact Nat.ne_of_gt (IsS66.lt (show IsS66 w _ gb295 a0_0 a0_1 a0_2 a0_3 a0_4 a0_5 a0_6 a0_7 from by have hi_ := HI295.out; exact IsS66.up)) : gb297 ≠ gb295)); clear HI295; clear BK296; clear HB; have HI295 := n0_; have BK296 := n1_; have HB := n2_; have BK297 := n3_; have GW297 := n4_; have GE297 := n5_; have NB296_297 := n6_; have NB297_296 := n7_; have NB295_297 := n8_; have NB297_295 := n9_; clear n0_ n1_ n2_ n3_ n4_ n5_ n6_ n7_ n8_ n9_; clear hb hbox hg; obtain ⟨HGz7, hgz7⟩ := HI295.out; have hcz7_0 := cellS66_0 HGz7; have hcz7_1 := cellS66_1 HGz7; have hcz7_2 := cellS66_2 HGz7; have hcz7_3 := cellS66_3 HGz7; have hcz7_4 := cellS66_4 HGz7; have hcz7_5 := cellS66_5 HGz7; have hcz7_6 := cellS66_6 HGz7; have hcz7_7 := cellS66_7 HGz7; have hfz7_0 := blk_frozen HGz7 0; have hfz7_1 := blk_frozen HGz7 1; have hfz7_2 := blk_frozen HGz7 2; have hfz7_3 := blk_frozen HGz7 3; have hfz7_4 := blk_frozen HGz7 4; have hfz7_5 := blk_frozen HGz7 5; have hfz7_6 := blk_frozen HGz7 6; have hfz7_7 := blk_frozen HGz7 7; clear HGz7 hgz7; have hnb8 := NB296_297.out; have hnc8 := NB297_296.out; have hnb9 := NB296_295.out; have hnc9 := NB295_296.out; have hcz10_0 : w6.cell? ⟨gb296, 0, none⟩ = some (.complex .f32 a1_0.re a1_0.im) := (blk_cell BK296.out 0).trans rfl; have hcz10_1 : w6.cell? ⟨gb296, 1, none⟩ = some (.complex .f32 a1_1.re a1_1.im) := (blk_cell BK296.out 1).trans rfl; have hcz10_2 : w6.cell? ⟨gb296, 2, none⟩ = some (.complex .f32 a1_2.re a1_2.im) := (blk_cell BK296.out 2).trans rfl; have hfz10_0 := blk_frozen BK296.out 0; have hfz10_1 := blk_frozen BK296.out 1; have hfz10_2 := blk_frozen BK296.out 2) | ((with_reducible refine gate_callee (f := 152) rfl ?_); refine gx_ (some 9) Try.func152 #[.agg #[.complex .f32 a0_4.re a0_4.im, .complex .f32 a0_5.re a0_5.im, .complex .f32 a0_6.re a0_6.im], .agg #[.complex .f32 a1_0.re a1_0.im, .complex .f32 a1_1.re a1_1.im, .complex .f32 a1_2.re a1_2.im], .func (.func 169) #[] #[.pointer (some ⟨gb295, 0, none⟩)]] ?_; (with_reducible refine (impl_each_c169.calls a0_4 a0_5 a0_6 a1_0 a1_1 a1_2 gb295 a0_0 a0_1 a0_2 a0_3 a0_4 a0_5 a0_6 a0_7 t298 t299 t300 t301 t302 t303 t304 t305 t306 t307 t308 w _ ?side1 ?side2 A3.out).mono ?_); (case side1 => have hi_ := HI295.out; exact IsS66.up); (case side2 => have ge_ := IsS66.ge HI295.out; exact tb); rintro e w11 ⟨rfl, hi, hb, hk⟩; refine ⟨_, rfl, ?_⟩; have n0_ := Aside0.mk (KeepBut.blk hk (g' := gb296) (o := .cells #[.complex .f32 a1_0.re a1_0.im, .complex .f32 a1_1.re a1_1.im, .complex .f32 a1_2.re a1_2.im] 39 (0, 0)) (bu BK296.out) NB296_295.out (by simp)); have n1_ := Aside0.mk (KeepBut.blk hk (g' := gb297) (o := .cells #[.complex .f32 0 0, .complex .f32 0 0, .complex .f32 0 0] 39 (0, 0)) (bu BK297.out) NB297_295.out (by simp)); have n2_ := Aside0.mk (hb); have n3_ := Aside0.mk (hi); clear BK296; clear BK297; clear HB; clear HI295; have BK296 := n0_; have BK297 := n1_; have HB := n2_; have HI295 := n3_; clear n0_ n1_ n2_ n3_; (try clear hb); (try clear hb2); (try clear hk); (try clear hi); have hnb12 := NB297_295.out; have hnc12 := NB295_297.out; have hcz13_0 : w11.cell? ⟨gb297, 0, none⟩ = some (.complex .f32 0 0) := (blk_cell BK297.out 0).trans rfl; have hcz13_1 : w11.cell? ⟨gb297, 1, none⟩ = some (.complex .f32 0 0) := (blk_cell BK297.out 1).trans rfl; have hcz13_2 : w11.cell? ⟨gb297, 2, none⟩ = some (.complex .f32 0 0) := (blk_cell BK297.out 2).trans rfl; have hfz13_0 := blk_frozen BK297.out 0; have hfz13_1 := blk_frozen BK297.out 1; have hfz13_2 := blk_frozen BK297.out 2))
 refine bodyPost_ret (results_cell_row rfl _ _ gb297 39 #[.complex .f32 t298.re t298.im, .complex .f32 t299.re t299.im, .complex .f32 t300.re t300.im] (0, 0) _ rfl (by refine bu ?_; refine blk_put (cs := #[.complex .f32 t298.re t298.im, .complex .f32 t299.re t299.im, .complex .f32 0 0]) ?_ 2 _ rfl; refine bu ?_; refine blk_put (cs := #[.complex .f32 t298.re t298.im, .complex .f32 0 0, .complex .f32 0 0]) ?_ 1 _ rfl; refine bu ?_; refine blk_put (cs := #[.complex .f32 0 0, .complex .f32 0 0, .complex .f32 0 0]) ?_ 0 _ rfl; refine bu ?_; exact BK297.out) Try.underlying39 rfl (by kernel_rfl)) rfl ?_
 exact ⟨re_, by have ge_ := IsS66.ge HI295.out; exact tb⟩

end Go.Proofs.Ytcgpomicgbmdlaa.PFnBanks
namespace Go.Proofs.Ytcgpomicgbmdlaa.PFnBanks
open Go.RowKit Go.Proofs.YtcgpomicgbmdlaaW.PrintWords Go.Proofs.YtcgpomicgbmdlaaW.PrintLast Go.Proofs.YtcgpomicgbmdlaaW.PrintMore
attribute [local go_sem] max2_int min2_int max_two min_two max_three min_three max_four min_four   -- for this text's walks alone
set_option linter.unusedVariables false
set_option linter.unusedSimpArgs false

/-! ### impl_Feeder_loads: function 116 -/
def impl_Feeder_loads.l0 : Nat → List (S39) → List (S39) → List (S66) → Int → Int → Cx → Cx → Cx → List (S66) → Option ((List (S39)) × Cx × Cx × Cx)
 | 0, _, _, _, _, _, _, _, _, _ => none
 | k + 1, x1, x5, x12, x13, x14, x1000, x1001, x1002, x1003 => if x14 < x13 then (if 0 ≤ x14 then (if x14 < (x12.length : Int) then (if x14 < (x1.length : Int) then ((impl_LoadCurrentOf.f ((rd_T66 x12 x14).f0) ((rd_T66 x12 x14).f1) ((rd_T66 x12 x14).f2) ((rd_T66 x12 x14).f3) ((rd_T66 x12 x14).f4.f0) ((rd_T66 x12 x14).f4.f1) ((rd_T66 x12 x14).f4.f2) ((rd_T66 x12 x14).f5) ((rd_T39 x1 x14).f0) ((rd_T39 x1 x14).f1) ((rd_T39 x1 x14).f2)).bind fun bt317 => (if x5.length < 5864062014805 then (impl_Feeder_loads.l0 k x1 (x5 ++ [(⟨bt317.1, bt317.2.1, bt317.2.2⟩ : S39)]) x12 x13 (wrap64 (x14 + 1)) x1000 x1001 x1002 x1003) else (none))) else (none)) else (none)) else (none)) else (some (x5, x1000, x1001, x1002))
def impl_Feeder_loads.f (k : Nat) (s0_0 : Cx) (s0_1 : Cx) (s0_2 : Cx) (s0_3 : List (S66)) (l1 : List (S39)) : Option ((List (S39)) × Cx × Cx × Cx) := impl_Feeder_loads.l0 k l1 (([] : List (S39))) s0_3 (s0_3.length : Int) 0 s0_0 s0_1 s0_2 s0_3
theorem impl_Feeder_loads.mono_l : ∀ k, (∀ y0 y1 y2 y3 y4 y5 y6 y7 y8, LeO (impl_Feeder_loads.l0 k y0 y1 y2 y3 y4 y5 y6 y7 y8) (impl_Feeder_loads.l0 (k + 1) y0 y1 y2 y3 y4 y5 y6 y7 y8))
 | 0 => fun _ _ _ _ _ _ _ _ _ r h => by simp [impl_Feeder_loads.l0] at h
 | k + 1 => by
  have ih0 := impl_Feeder_loads.mono_l k
  ·intro y0 y1 y2 y3 y4 y5 y6 y7 y8
   unfold impl_Feeder_loads.l0
   repeat' first
   | (with_reducible exact ih0 _ _ _ _ _ _ _ _ _)
   | (with_reducible exact LeO.refl _)
   | (with_reducible exact LeO.none _)
   | (with_reducible refine LeO.ite ?_ ?_)
   | (with_reducible refine LeO.bind ?_ (fun _ => ?_))
   | exact ih0 _ _ _ _ _ _ _ _ _
   | exact LeO.none _
   | refine LeO.ite ?_ ?_
   | refine LeO.bind ?_ (fun _ => ?_)
theorem impl_Feeder_loads.mono : ∀ a0 a1 a2 a3 a4 k, LeO (impl_Feeder_loads.f k a0 a1 a2 a3 a4) (impl_Feeder_loads.f (k + 1) a0 a1 a2 a3 a4) := by
 intro a0 a1 a2 a3 a4 k
 have ih0 := impl_Feeder_loads.mono_l k
 unfold impl_Feeder_loads.f
 repeat' first
   | (with_reducible exact ih0 _ _ _ _ _ _ _ _ _)
   | (with_reducible exact LeO.refl _)
   | (with_reducible exact LeO.none _)
   | (with_reducible refine LeO.ite ?_ ?_)
   | (with_reducible refine LeO.bind ?_ (fun _ => ?_))
   | exact ih0 _ _ _ _ _ _ _ _ _
   | exact LeO.none _
   | refine LeO.ite ?_ ?_
   | refine LeO.bind ?_ (fun _ => ?_)
def impl_Feeder_loads.T5 : Bool × List (List Nat × List Nat) := (true, [([], []), ([], []), ([], []), ([], []), ([2, 3], [2, 3]), ([4], [4]), ([1, 5], [1, 5]), ([6], [6]), ([0, 7, 6], [0, 7]), ([8, 8, 0, 1, 2, 3, 4, 5, 6, 7, 8], [0, 8])])
def impl_Feeder_loads.B5 : List Nat := [0, 0, 0, 0, 12, 28, 62, 126, 255, 511]
theorem impl_Feeder_loads.tab5 : rtab .any (opsOf Try.f116 5) = impl_Feeder_loads.T5 := by kernel_rfl
theorem impl_Feeder_loads.bits5 : waitsOk impl_Feeder_loads.T5.2 impl_Feeder_loads.B5 = true := by kernel_rfl
set_option maxHeartbeats 8000000 in
set_option maxRecDepth 100000 in
theorem impl_Feeder_loads.calls (k : Nat) (g : Nat) (s0_0 : Cx) (s0_1 : Cx) (s0_2 : Cx) (s0_3 : List (S66)) (A1 : Option Addr) (c1 : Nat) (l1 : List (S39)) (r1 : List (S39)) (r2 : Cx) (r3 : Cx) (r4 : Cx) (w0 w : World) (hI : IsS42 w0 w g s0_0 s0_1 s0_2 s0_3) (hB : Below w0.heap.size w0 w) (hr1 : ∀ W_, KeepBut w W_ g none → Kd.C k39 W_ A1 l1.length l1) (hc1 : l1.length ≤ c1) (h : impl_Feeder_loads.f k s0_0 s0_1 s0_2 s0_3 l1 = some (r1, r2, r3, r4)) :
  Calls Try.prog 116 #[.pointer (some ⟨g, 0, none⟩), .slice A1 l1.length c1] w fun e w' => ∃ v0_ : Value, e = .returned (v0_) ∧ Kd.R k39 39 w' w.heap.size (fun _ => True) v0_ r1 ∧ IsS42 w0 w' g r2 r3 r4 s0_3 ∧ Below w0.heap.size w0 w' ∧ KeepBut w w' g none := by
 have hu66 := Try.underlying66
 have hu39 := Try.underlying39
 have HR1 := Aside0.mk hr1
 have HC1 := Aside0.mk hc1
 clear hr1 hc1
 have HI0 := Aside0.mk hI
 have HK := Aside0.mk (KeepBut.refl w g none)
 have HL := Aside0.mk hB.size
 clear hI
 have HW0 := Aside0.mk hB.size
 have HB := Aside0.mk hB
 clear hB
 have H : (impl_Feeder_loads.l0 k l1 (([] : List (S39))) s0_3 (s0_3.length : Int) 0 s0_0 s0_1 s0_2 s0_3) = some (r1, r2, r3, r4) := h
 clear h
 obtain ⟨y309, hy309⟩ : ∃ y_ : List (S39), y_ = (([] : List (S39))) := ⟨_, rfl⟩
 replace H : (impl_Feeder_loads.l0 k l1 y309 s0_3 (s0_3.length : Int) 0 s0_0 s0_1 s0_2 s0_3) = some (r1, r2, r3, r4) := by first | (rw [hy309]; with_reducible exact H) | (have H2_ := (Option.bind_some _ _).symm.trans H; rw [hy309]; with_reducible exact H2_) | (have H2_ := (Option.bind_some _ _).symm.trans H; with_reducible exact H2_) | with_reducible exact H | (rw [hy309]; exact H) | exact H
 have Ny309 := Aside0.mk hy309
 clear hy309
 have H' := Aside0.mk H
 clear H
 go_enter Try.func116, Try.ntmps116
 go_wp2_with (first | ((with_reducible refine gate_dst (N := 8) rfl ?_); refine Kd.R_lit k39 _ 39 ?hg (N := 8) ?hd (xs := ([] : List (S39))) (inner := []) (ok := fun _ => True) (okp := fun _ => True) ?hr ?hp (fun _ hk => hk) trivial (Below.refl _ _) (Nat.le_refl _) (by simp) ?_; (case hd => rfl); (case hg => rfl); (case hr => first | (go_simp; done) | (go_simp; rfl)); (case hp => exact (Reps.none _ _)); intro v310 w3 ho4 hb hg_ hnew_; clear hg_ hnew_; (first | rw [← Ny309.out] at ho4 | (simp only [Int.reduceToNat] at ho4; rw [← Ny309.out] at ho4)); have n0_ := Aside0.mk (Kd.R_lower ho4 (keep_size (w := w) (g := g) (row := none) (by repeat (first | (with_reducible first | exact HK.out | apply KeepBut.set_ | apply keep_drewN | apply keep_drew | apply keep_alloc) | exact HK.out)))); have n1_ := Aside0.mk (IsS42.below (by have hi_ := HI0.out; exact IsS42.up) hb); have n2_ := Aside0.mk (KeepBut.trans (by repeat (first | (with_reducible first | exact HK.out | apply KeepBut.set_ | apply keep_drewN | apply keep_drew | apply keep_alloc) | exact HK.out)) (KeepBut.of_below hb g none) (.inl rfl)); have n3_ := Aside0.mk (below_step (by have ge_ := IsS42.ge HI0.out; exact tb) hb); clear HI0; clear HK; clear HB; have HO311 := n0_; have HI0 := n1_; have HK := n2_; have HB := n3_; clear n0_ n1_ n2_ n3_; clear hb ho4; obtain ⟨ASz5_3, cSz5_3, HGz5, hgz5, HSz5_3, HLz5_3⟩ := HI0.out; have hcz5_0 := cellS42_0 HGz5; have hcz5_1 := cellS42_1 HGz5; have hcz5_2 := cellS42_2 HGz5; have hcz5_3 := cellS42_3 HGz5; have hfz5_0 := blk_frozen HGz5 0; have hfz5_1 := blk_frozen HGz5 1; have hfz5_2 := blk_frozen HGz5 2; clear HGz5 hgz5; have HR313 := Aside0.mk (Kd.C_foot_entry k66_heap HSz5_3 (by exact HB.out) (IsS42.ge HI0.out) (by exact HK.out) HW0.out); have HC313 := Aside0.mk HLz5_3))
 go_loopg [5, 14] k (fun kq v5 v14 w' => ∃ (x5_1 : List (S39)) (x14_1 : Int), v14 = .int .i64 x14_1 ∧ Aside0 (impl_Feeder_loads.l0 kq l1 x5_1 s0_3 (s0_3.length : Int) x14_1 s0_0 s0_1 s0_2 s0_3 = some (r1, r2, r3, r4)) ∧ Aside0 (kq ≤ k) ∧ Aside0 (Kd.R k39 39 w' w.heap.size (fun _ => True) v5 x5_1) ∧ Aside0 (IsS42 w0 w' g s0_0 s0_1 s0_2 s0_3) ∧ Aside0 (KeepBut w w' g none) ∧ Aside0 (Below w0.heap.size w0 w'))
 case atStart => exact ⟨(y309), (0), rs_, H', ⟨Nat.le_refl _⟩, ⟨by refine ru ?_; exact HO311.out⟩, ⟨by have hi_ := HI0.out; exact IsS42.up⟩, ⟨by repeat (first | (with_reducible first | exact HK.out | apply KeepBut.set_ | apply keep_drewN | apply keep_drew | apply keep_alloc) | exact HK.out)⟩, ⟨by have ge_ := IsS42.ge HI0.out; exact tb⟩⟩
 case round =>
  clear H'
  try clear c1
  try clear p2
  try clear hcz5_0
  try clear hcz5_1
  try clear hcz5_2
  try clear hcz5_3
  try clear hfz5_0
  try clear hfz5_1
  try clear hfz5_2
  obtain ⟨x5_1, x14_1, rfl, HA, HK1, HO_5, HI0, HK, HB⟩ := hrel
  cases gk with
  | zero => exact absurd HA.out (by simp [impl_Feeder_loads.l0])
  | succ k1 =>
   have H := HA.out
   clear HA
   simp only [impl_Feeder_loads.l0] at H
   by_cases c6 : x14_1 < (s0_3.length : Int)
   ·rw [if_pos c6] at H
    have c6b0 : decide (x14_1 < (s0_3.length : Int)) = true := decide_eq_true c6
    clear c6
    by_cases c7 : 0 ≤ x14_1
    ·rw [if_pos c7] at H
     have c7b0 : decide (0 ≤ x14_1) = true := decide_eq_true c7
     clear c7
     by_cases c8 : x14_1 < (s0_3.length : Int)
     ·rw [if_pos c8] at H
      have c8b0 : decide (x14_1 < (s0_3.length : Int)) = true := decide_eq_true c8
      clear c8
      by_cases c9 : x14_1 < (l1.length : Int)
      ·rw [if_pos c9] at H
       have c9b0 : decide (x14_1 < (l1.length : Int)) = true := decide_eq_true c9
       clear c9
       replace H := Option.bind_eq_some_iff.mp H
       obtain ⟨⟨t317, t318, t319⟩, A100, H⟩ := H
       try dsimp only at H
       have A10 := Aside0.mk A100
       clear A100
       by_cases c11 : x5_1.length < 5864062014805
       ·rw [if_pos c11] at H
        have LMc11 := Aside0.mk c11
        clear c11
        obtain ⟨y320, hy320⟩ : ∃ y_ : List (S39), y_ = (x5_1 ++ [(⟨t317, t318, t319⟩ : S39)]) := ⟨_, rfl⟩
        replace H : (impl_Feeder_loads.l0 k1 l1 y320 s0_3 (s0_3.length : Int) (wrap64 (x14_1 + 1)) s0_0 s0_1 s0_2 s0_3) = some (r1, r2, r3, r4) := by first | (rw [hy320]; with_reducible exact H) | (have H2_ := (Option.bind_some _ _).symm.trans H; rw [hy320]; with_reducible exact H2_) | (have H2_ := (Option.bind_some _ _).symm.trans H; with_reducible exact H2_) | with_reducible exact H | (rw [hy320]; exact H) | exact H
        have Ny320 := Aside0.mk hy320
        clear hy320
        have H' := Aside0.mk H
        clear H
        have p314 : 0 ≤ (x14_1 : Int) := of_decide_eq_true (by first | (with_reducible assumption) | assumption)
        have q314 : x14_1 < (s0_3.length : Int) := of_decide_eq_true (by first | (with_reducible assumption) | assumption)
        obtain ⟨ad314, e314, hx314_0, hx314_1, hx314_2, hx314_3, hx314_4, hx314_5, hx314_6, hx314_7⟩ := at_T66 (Kd.C_foot_now HR313.out HK.out) x14_1 p314 q314
        cases e314
        replace p314 := eq_true p314
        replace q314 := eq_true q314
        try go_wp2_with (first | ((with_reducible refine gate_dst (N := 7) rfl ?_); refine box_event ?hg (N := 7) ?hd (cs := #[.int .i64 0, .complex .f32 0 0, .complex .f32 0 0, .int .i64 0, .complex .f32 0 0, .complex .f32 0 0, .complex .f32 0 0, .int .i64 0]) (t := 66) ?hr ?_; (case hd => rfl); (case hg => rfl); (case hr => first | (go_simp; done) | (go_simp; rfl)); intro gb315 hg w12 hbox hb; have n0_ := Aside0.mk (Kd.R_below (ru HO_5.out) hb); have n1_ := Aside0.mk (IsS42.below (by have hi_ := HI0.out; exact IsS42.up) hb); have n2_ := Aside0.mk (KeepBut.trans (by repeat (first | (with_reducible first | exact HK.out | apply KeepBut.set_ | apply keep_drewN | apply keep_drew | apply keep_alloc) | exact HK.out)) (KeepBut.of_below hb g none) (.inl rfl)); have n3_ := Aside0.mk (below_step (by have ge_ := IsS42.ge HI0.out; exact tb) hb); have n4_ := Aside0.mk (hbox); have n5_ := Aside0.mk ((by rw [hg]; exact (keep_size (w := w) (g := g) (row := none) (by repeat (first | (with_reducible first | exact HK.out | apply KeepBut.set_ | apply keep_drewN | apply keep_drew | apply keep_alloc) | exact HK.out))) : w.heap.size ≤ gb315)); have n6_ := Aside0.mk ((Nat.le_trans HW0.out (by rw [hg]; exact (keep_size (w := w) (g := g) (row := none) (by repeat (first | (with_reducible first | exact HK.out | apply KeepBut.set_ | apply keep_drewN | apply keep_drew | apply keep_alloc) | exact HK.out))) : w.heap.size ≤ gb315) : w0.heap.size ≤ gb315)); have n7_ := Aside0.mk ((by rw [hg]; exact Nat.ne_of_lt (IsS42.lt (show IsS42 w0 _ g s0_0 s0_1 s0_2 s0_3 from by have hi_ := HI0.out; exact IsS42.up)) : g ≠ gb315)); have n8_ := Aside0.mk ((by rw [hg]; exact Nat.ne_of_gt (IsS42.lt (show IsS42 w0 _ g s0_0 s0_1 s0_2 s0_3 from by have hi_ := HI0.out; exact IsS42.up)) : gb315 ≠ g)); clear HO_5; clear HI0; clear HK; clear HB; have HO_5 := n0_; have HI0 := n1_; have HK := n2_; have HB := n3_; have BK315 := n4_; have GW315 := n5_; have GE315 := n6_; have NB0_315 := n7_; have NB315_0 := n8_; clear n0_ n1_ n2_ n3_ n4_ n5_ n6_ n7_ n8_; clear hb hbox hg; have hnb13 := NB315_0.out; have hnc13 := NB0_315.out; have hcz14_0 : w12.cell? ⟨gb315, 0, none⟩ = some (.int .i64 0) := (blk_cell BK315.out 0).trans rfl; have hcz14_1 : w12.cell? ⟨gb315, 1, none⟩ = some (.complex .f32 0 0) := (blk_cell BK315.out 1).trans rfl; have hcz14_2 : w12.cell? ⟨gb315, 2, none⟩ = some (.complex .f32 0 0) := (blk_cell BK315.out 2).trans rfl; have hcz14_3 : w12.cell? ⟨gb315, 3, none⟩ = some (.int .i64 0) := (blk_cell BK315.out 3).trans rfl; have hcz14_4 : w12.cell? ⟨gb315, 4, none⟩ = some (.complex .f32 0 0) := (blk_cell BK315.out 4).trans rfl; have hcz14_5 : w12.cell? ⟨gb315, 5, none⟩ = some (.complex .f32 0 0) := (blk_cell BK315.out 5).trans rfl; have hcz14_6 : w12.cell? ⟨gb315, 6, none⟩ = some (.complex .f32 0 0) := (blk_cell BK315.out 6).trans rfl; have hcz14_7 : w12.cell? ⟨gb315, 7, none⟩ = some (.int .i64 0) := (blk_cell BK315.out 7).trans rfl; have hfz14_0 := blk_frozen BK315.out 0; have hfz14_1 := blk_frozen BK315.out 1; have hfz14_2 := blk_frozen BK315.out 2; have hfz14_3 := blk_frozen BK315.out 3; have hfz14_4 := blk_frozen BK315.out 4; have hfz14_5 := blk_frozen BK315.out 5; have hfz14_6 := blk_frozen BK315.out 6; have hfz14_7 := blk_frozen BK315.out 7))
        have n0_ : Aside0 (Kd.R k39 39 ((((((((w12.setCell ⟨gb315, 0, none⟩ (.int .i64 ((rd_T66 s0_3 x14_1).f0))).setCell ⟨gb315, 1, none⟩ (.complex .f32 (((rd_T66 s0_3 x14_1).f1).re) (((rd_T66 s0_3 x14_1).f1).im))).setCell ⟨gb315, 2, none⟩ (.complex .f32 (((rd_T66 s0_3 x14_1).f2).re) (((rd_T66 s0_3 x14_1).f2).im))).setCell ⟨gb315, 3, none⟩ (.int .i64 ((rd_T66 s0_3 x14_1).f3))).setCell ⟨gb315, 4, none⟩ (.complex .f32 (((rd_T66 s0_3 x14_1).f4.f0).re) (((rd_T66 s0_3 x14_1).f4.f0).im))).setCell ⟨gb315, 5, none⟩ (.complex .f32 (((rd_T66 s0_3 x14_1).f4.f1).re) (((rd_T66 s0_3 x14_1).f4.f1).im))).setCell ⟨gb315, 6, none⟩ (.complex .f32 (((rd_T66 s0_3 x14_1).f4.f2).re) (((rd_T66 s0_3 x14_1).f4.f2).im))).setCell ⟨gb315, 7, none⟩ (.int .i64 ((rd_T66 s0_3 x14_1).f5))) w.heap.size (fun _ => True) u5 x5_1) := ⟨by refine ru ?_; exact Kd.R_mono (Kd.R_far (p := ⟨gb315, 7, none⟩) (Kd.R_far (p := ⟨gb315, 6, none⟩) (Kd.R_far (p := ⟨gb315, 5, none⟩) (Kd.R_far (p := ⟨gb315, 4, none⟩) (Kd.R_far (p := ⟨gb315, 3, none⟩) (Kd.R_far (p := ⟨gb315, 2, none⟩) (Kd.R_far (p := ⟨gb315, 1, none⟩) (Kd.R_far (p := ⟨gb315, 0, none⟩) (Kd.R_types HO_5.out BK315.out (by decide)) (fun _ hk => hk.2) (.int .i64 ((rd_T66 s0_3 x14_1).f0))) (fun _ hk => hk.2) (.complex .f32 (((rd_T66 s0_3 x14_1).f1).re) (((rd_T66 s0_3 x14_1).f1).im))) (fun _ hk => hk.2) (.complex .f32 (((rd_T66 s0_3 x14_1).f2).re) (((rd_T66 s0_3 x14_1).f2).im))) (fun _ hk => hk.2) (.int .i64 ((rd_T66 s0_3 x14_1).f3))) (fun _ hk => hk.2) (.complex .f32 (((rd_T66 s0_3 x14_1).f4.f0).re) (((rd_T66 s0_3 x14_1).f4.f0).im))) (fun _ hk => hk.2) (.complex .f32 (((rd_T66 s0_3 x14_1).f4.f1).re) (((rd_T66 s0_3 x14_1).f4.f1).im))) (fun _ hk => hk.2) (.complex .f32 (((rd_T66 s0_3 x14_1).f4.f2).re) (((rd_T66 s0_3 x14_1).f4.f2).im))) (fun _ hk => hk.2) (.int .i64 ((rd_T66 s0_3 x14_1).f5))) (fun _ hk => trivial)⟩
        have n1_ : Aside0 (((((((((w12.setCell ⟨gb315, 0, none⟩ (.int .i64 ((rd_T66 s0_3 x14_1).f0))).setCell ⟨gb315, 1, none⟩ (.complex .f32 (((rd_T66 s0_3 x14_1).f1).re) (((rd_T66 s0_3 x14_1).f1).im))).setCell ⟨gb315, 2, none⟩ (.complex .f32 (((rd_T66 s0_3 x14_1).f2).re) (((rd_T66 s0_3 x14_1).f2).im))).setCell ⟨gb315, 3, none⟩ (.int .i64 ((rd_T66 s0_3 x14_1).f3))).setCell ⟨gb315, 4, none⟩ (.complex .f32 (((rd_T66 s0_3 x14_1).f4.f0).re) (((rd_T66 s0_3 x14_1).f4.f0).im))).setCell ⟨gb315, 5, none⟩ (.complex .f32 (((rd_T66 s0_3 x14_1).f4.f1).re) (((rd_T66 s0_3 x14_1).f4.f1).im))).setCell ⟨gb315, 6, none⟩ (.complex .f32 (((rd_T66 s0_3 x14_1).f4.f2).re) (((rd_T66 s0_3 x14_1).f4.f2).im))).setCell ⟨gb315, 7, none⟩ (.int .i64 ((rd_T66 s0_3 x14_1).f5))).heap[gb315]? = some (.cells #[.int .i64 ((rd_T66 s0_3 x14_1).f0), .complex .f32 (((rd_T66 s0_3 x14_1).f1).re) (((rd_T66 s0_3 x14_1).f1).im), .complex .f32 (((rd_T66 s0_3 x14_1).f2).re) (((rd_T66 s0_3 x14_1).f2).im), .int .i64 ((rd_T66 s0_3 x14_1).f3), .complex .f32 (((rd_T66 s0_3 x14_1).f4.f0).re) (((rd_T66 s0_3 x14_1).f4.f0).im), .complex .f32 (((rd_T66 s0_3 x14_1).f4.f1).re) (((rd_T66 s0_3 x14_1).f4.f1).im), .complex .f32 (((rd_T66 s0_3 x14_1).f4.f2).re) (((rd_T66 s0_3 x14_1).f4.f2).im), .int .i64 ((rd_T66 s0_3 x14_1).f5)] 66 (0, 0))) := ⟨by refine bu ?_; refine blk_put (cs := #[.int .i64 ((rd_T66 s0_3 x14_1).f0), .complex .f32 (((rd_T66 s0_3 x14_1).f1).re) (((rd_T66 s0_3 x14_1).f1).im), .complex .f32 (((rd_T66 s0_3 x14_1).f2).re) (((rd_T66 s0_3 x14_1).f2).im), .int .i64 ((rd_T66 s0_3 x14_1).f3), .complex .f32 (((rd_T66 s0_3 x14_1).f4.f0).re) (((rd_T66 s0_3 x14_1).f4.f0).im), .complex .f32 (((rd_T66 s0_3 x14_1).f4.f1).re) (((rd_T66 s0_3 x14_1).f4.f1).im), .complex .f32 (((rd_T66 s0_3 x14_1).f4.f2).re) (((rd_T66 s0_3 x14_1).f4.f2).im), .int .i64 0]) ?_ 7 _ rfl; refine bu ?_; refine blk_put (cs := #[.int .i64 ((rd_T66 s0_3 x14_1).f0), .complex .f32 (((rd_T66 s0_3 x14_1).f1).re) (((rd_T66 s0_3 x14_1).f1).im), .complex .f32 (((rd_T66 s0_3 x14_1).f2).re) (((rd_T66 s0_3 x14_1).f2).im), .int .i64 ((rd_T66 s0_3 x14_1).f3), .complex .f32 (((rd_T66 s0_3 x14_1).f4.f0).re) (((rd_T66 s0_3 x14_1).f4.f0).im), .complex .f32 (((rd_T66 s0_3 x14_1).f4.f1).re) (((rd_T66 s0_3 x14_1).f4.f1).im), .complex .f32 0 0, .int .i64 0]) ?_ 6 _ rfl; refine bu ?_; refine blk_put (cs := #[.int .i64 ((rd_T66 s0_3 x14_1).f0), .complex .f32 (((rd_T66 s0_3 x14_1).f1).re) (((rd_T66 s0_3 x14_1).f1).im), .complex .f32 (((rd_T66 s0_3 x14_1).f2).re) (((rd_T66 s0_3 x14_1).f2).im), .int .i64 ((rd_T66 s0_3 x14_1).f3), .complex .f32 (((rd_T66 s0_3 x14_1).f4.f0).re) (((rd_T66 s0_3 x14_1).f4.f0).im), .complex .f32 0 0, .complex .f32 0 0, .int .i64 0]) ?_ 5 _ rfl; refine bu ?_; refine blk_put (cs := #[.int .i64 ((rd_T66 s0_3 x14_1).f0), .complex .f32 (((rd_T66 s0_3 x14_1).f1).re) (((rd_T66 s0_3 x14_1).f1).im), .complex .f32 (((rd_T66 s0_3 x14_1).f2).re) (((rd_T66 s0_3 x14_1).f2).im), .int .i64 ((rd_T66 s0_3 x14_1).f3), .complex .f32 0 0, .complex .f32 0 0, .complex .f32 0 0, .int .i64 0]) ?_ 4 _ rfl; refine bu ?_; refine blk_put (cs := #[.int .i64 ((rd_T66 s0_3 x14_1).f0), .complex .f32 (((rd_T66 s0_3 x14_1).f1).re) (((rd_T66 s0_3 x14_1).f1).im), .complex .f32 (((rd_T66 s0_3 x14_1).f2).re) (((rd_T66 s0_3 x14_1).f2).im), .int .i64 0, .complex .f32 0 0, .complex .f32 0 0, .complex .f32 0 0, .int .i64 0]) ?_ 3 _ rfl; refine bu ?_; refine blk_put (cs := #[.int .i64 ((rd_T66 s0_3 x14_1).f0), .complex .f32 (((rd_T66 s0_3 x14_1).f1).re) (((rd_T66 s0_3 x14_1).f1).im), .complex .f32 0 0, .int .i64 0, .complex .f32 0 0, .complex .f32 0 0, .complex .f32 0 0, .int .i64 0]) ?_ 2 _ rfl; refine bu ?_; refine blk_put (cs := #[.int .i64 ((rd_T66 s0_3 x14_1).f0), .complex .f32 0 0, .complex .f32 0 0, .int .i64 0, .complex .f32 0 0, .complex .f32 0 0, .complex .f32 0 0, .int .i64 0]) ?_ 1 _ rfl; refine bu ?_; refine blk_put (cs := #[.int .i64 0, .complex .f32 0 0, .complex .f32 0 0, .int .i64 0, .complex .f32 0 0, .complex .f32 0 0, .complex .f32 0 0, .int .i64 0]) ?_ 0 _ rfl; refine bu ?_; exact BK315.out⟩
        have n2_ : Aside0 (IsS42 w0 ((((((((w12.setCell ⟨gb315, 0, none⟩ (.int .i64 ((rd_T66 s0_3 x14_1).f0))).setCell ⟨gb315, 1, none⟩ (.complex .f32 (((rd_T66 s0_3 x14_1).f1).re) (((rd_T66 s0_3 x14_1).f1).im))).setCell ⟨gb315, 2, none⟩ (.complex .f32 (((rd_T66 s0_3 x14_1).f2).re) (((rd_T66 s0_3 x14_1).f2).im))).setCell ⟨gb315, 3, none⟩ (.int .i64 ((rd_T66 s0_3 x14_1).f3))).setCell ⟨gb315, 4, none⟩ (.complex .f32 (((rd_T66 s0_3 x14_1).f4.f0).re) (((rd_T66 s0_3 x14_1).f4.f0).im))).setCell ⟨gb315, 5, none⟩ (.complex .f32 (((rd_T66 s0_3 x14_1).f4.f1).re) (((rd_T66 s0_3 x14_1).f4.f1).im))).setCell ⟨gb315, 6, none⟩ (.complex .f32 (((rd_T66 s0_3 x14_1).f4.f2).re) (((rd_T66 s0_3 x14_1).f4.f2).im))).setCell ⟨gb315, 7, none⟩ (.int .i64 ((rd_T66 s0_3 x14_1).f5))) g s0_0 s0_1 s0_2 s0_3) := ⟨by have hi_ := HI0.out; exact IsS42.up⟩
        have n3_ : Aside0 (KeepBut w ((((((((w12.setCell ⟨gb315, 0, none⟩ (.int .i64 ((rd_T66 s0_3 x14_1).f0))).setCell ⟨gb315, 1, none⟩ (.complex .f32 (((rd_T66 s0_3 x14_1).f1).re) (((rd_T66 s0_3 x14_1).f1).im))).setCell ⟨gb315, 2, none⟩ (.complex .f32 (((rd_T66 s0_3 x14_1).f2).re) (((rd_T66 s0_3 x14_1).f2).im))).setCell ⟨gb315, 3, none⟩ (.int .i64 ((rd_T66 s0_3 x14_1).f3))).setCell ⟨gb315, 4, none⟩ (.complex .f32 (((rd_T66 s0_3 x14_1).f4.f0).re) (((rd_T66 s0_3 x14_1).f4.f0).im))).setCell ⟨gb315, 5, none⟩ (.complex .f32 (((rd_T66 s0_3 x14_1).f4.f1).re) (((rd_T66 s0_3 x14_1).f4.f1).im))).setCell ⟨gb315, 6, none⟩ (.complex .f32 (((rd_T66 s0_3 x14_1).f4.f2).re) (((rd_T66 s0_3 x14_1).f4.f2).im))).setCell ⟨gb315, 7, none⟩ (.int .i64 ((rd_T66 s0_3 x14_1).f5))) g none) := ⟨by repeat (first | (with_reducible first | exact HK.out | apply KeepBut.set_ | apply keep_drewN | apply keep_drew | apply keep_alloc | refine keep_far ?_ GW315.out _) | exact HK.out)⟩
        have n4_ : Aside0 (Below w0.heap.size w0 ((((((((w12.setCell ⟨gb315, 0, none⟩ (.int .i64 ((rd_T66 s0_3 x14_1).f0))).setCell ⟨gb315, 1, none⟩ (.complex .f32 (((rd_T66 s0_3 x14_1).f1).re) (((rd_T66 s0_3 x14_1).f1).im))).setCell ⟨gb315, 2, none⟩ (.complex .f32 (((rd_T66 s0_3 x14_1).f2).re) (((rd_T66 s0_3 x14_1).f2).im))).setCell ⟨gb315, 3, none⟩ (.int .i64 ((rd_T66 s0_3 x14_1).f3))).setCell ⟨gb315, 4, none⟩ (.complex .f32 (((rd_T66 s0_3 x14_1).f4.f0).re) (((rd_T66 s0_3 x14_1).f4.f0).im))).setCell ⟨gb315, 5, none⟩ (.complex .f32 (((rd_T66 s0_3 x14_1).f4.f1).re) (((rd_T66 s0_3 x14_1).f4.f1).im))).setCell ⟨gb315, 6, none⟩ (.complex .f32 (((rd_T66 s0_3 x14_1).f4.f2).re) (((rd_T66 s0_3 x14_1).f4.f2).im))).setCell ⟨gb315, 7, none⟩ (.int .i64 ((rd_T66 s0_3 x14_1).f5)))) := ⟨by have ge_ := IsS42.ge HI0.out; exact tb⟩
        (try clear HO_5)
        (try clear BK315)
        (try clear HI0)
        (try clear HK)
        (try clear HB)
        generalize ((((((((w12.setCell ⟨gb315, 0, none⟩ (.int .i64 ((rd_T66 s0_3 x14_1).f0))).setCell ⟨gb315, 1, none⟩ (.complex .f32 (((rd_T66 s0_3 x14_1).f1).re) (((rd_T66 s0_3 x14_1).f1).im))).setCell ⟨gb315, 2, none⟩ (.complex .f32 (((rd_T66 s0_3 x14_1).f2).re) (((rd_T66 s0_3 x14_1).f2).im))).setCell ⟨gb315, 3, none⟩ (.int .i64 ((rd_T66 s0_3 x14_1).f3))).setCell ⟨gb315, 4, none⟩ (.complex .f32 (((rd_T66 s0_3 x14_1).f4.f0).re) (((rd_T66 s0_3 x14_1).f4.f0).im))).setCell ⟨gb315, 5, none⟩ (.complex .f32 (((rd_T66 s0_3 x14_1).f4.f1).re) (((rd_T66 s0_3 x14_1).f4.f1).im))).setCell ⟨gb315, 6, none⟩ (.complex .f32 (((rd_T66 s0_3 x14_1).f4.f2).re) (((rd_T66 s0_3 x14_1).f4.f2).im))).setCell ⟨gb315, 7, none⟩ (.int .i64 ((rd_T66 s0_3 x14_1).f5))) = w15 at n0_ n1_ n2_ n3_ n4_ ⊢
        have HO_5 := n0_
        have BK315 := n1_
        have HI0 := n2_
        have HK := n3_
        have HB := n4_
        clear n0_ n1_ n2_ n3_ n4_
        have n0_ := Aside0.mk (Kd.R_drew HO_5.out)
        have n1_ := Aside0.mk (blk_drew BK315.out)
        have n2_ := Aside0.mk (IsS42.drew HI0.out)
        have n3_ := Aside0.mk (keep_drew HK.out)
        have n4_ := Aside0.mk (below_drew1 HB.out)
        clear HO_5
        clear BK315
        clear HI0
        clear HK
        clear HB
        have HO_5 := n0_
        have BK315 := n1_
        have HI0 := n2_
        have HK := n3_
        have HB := n4_
        clear n0_ n1_ n2_ n3_ n4_
        have p316 : 0 ≤ (x14_1 : Int) := of_decide_eq_true (by first | (with_reducible assumption) | assumption)
        have q316 : x14_1 < (l1.length : Int) := of_decide_eq_true (by first | (with_reducible assumption) | assumption)
        obtain ⟨ad316, e316, hx316_0, hx316_1, hx316_2⟩ := at_T39 (Kd.C_foot_now HR1.out HK.out) x14_1 p316 q316
        have hw316_2 := hx316_2
        have hw316_1 := hx316_1
        have hw316_0 := hx316_0
        cases e316
        have hne316_2 := (show (⟨(ad316.add ((x14_1).toNat * 3)).block, (ad316.add ((x14_1).toNat * 3)).off + 2, none⟩ : Addr).block ≠ g from by first | (rw [add_block]; exact Kd.foot_ne HR1.out (by omega) (by decide)) | (show (Addr.add _ _).block ≠ _; rw [add_block]; exact Kd.foot_ne HR1.out (by omega) (by decide)) | exact Kd.foot_ne HR1.out (by omega) (by decide) | (dsimp only; exact Kd.foot_ne HR1.out (by omega) (by decide)))
        have hlt316_2 := (Kd.foot_lt HR1.out (by omega) (by decide))
        have hne316_1 := (show (⟨(ad316.add ((x14_1).toNat * 3)).block, (ad316.add ((x14_1).toNat * 3)).off + 1, none⟩ : Addr).block ≠ g from by first | (rw [add_block]; exact Kd.foot_ne HR1.out (by omega) (by decide)) | (show (Addr.add _ _).block ≠ _; rw [add_block]; exact Kd.foot_ne HR1.out (by omega) (by decide)) | exact Kd.foot_ne HR1.out (by omega) (by decide) | (dsimp only; exact Kd.foot_ne HR1.out (by omega) (by decide)))
        have hlt316_1 := (Kd.foot_lt HR1.out (by omega) (by decide))
        have hne316_0 := (show ((ad316.add ((x14_1).toNat * 3)) : Addr).block ≠ g from by first | (rw [add_block]; exact Kd.foot_ne HR1.out (by omega) (by decide)) | (show (Addr.add _ _).block ≠ _; rw [add_block]; exact Kd.foot_ne HR1.out (by omega) (by decide)) | exact Kd.foot_ne HR1.out (by omega) (by decide) | (dsimp only; exact Kd.foot_ne HR1.out (by omega) (by decide)))
        have hlt316_0 := (Kd.foot_lt HR1.out (by omega) (by decide))
        replace p316 := eq_true p316
        replace q316 := eq_true q316
        refine start_ (n := 10) (S := fun w' => w'.cell? ⟨gb315, 0, none⟩ = some (.int .i64 ((rd_T66 s0_3 x14_1).f0)) ∧ w'.cell? ⟨gb315, 1, none⟩ = some (.complex .f32 (((rd_T66 s0_3 x14_1).f1).re) (((rd_T66 s0_3 x14_1).f1).im)) ∧ w'.cell? ⟨gb315, 2, none⟩ = some (.complex .f32 (((rd_T66 s0_3 x14_1).f2).re) (((rd_T66 s0_3 x14_1).f2).im)) ∧ w'.cell? ⟨gb315, 3, none⟩ = some (.int .i64 ((rd_T66 s0_3 x14_1).f3)) ∧ w'.cell? ⟨gb315, 4, none⟩ = some (.complex .f32 (((rd_T66 s0_3 x14_1).f4.f0).re) (((rd_T66 s0_3 x14_1).f4.f0).im)) ∧ w'.cell? ⟨gb315, 5, none⟩ = some (.complex .f32 (((rd_T66 s0_3 x14_1).f4.f1).re) (((rd_T66 s0_3 x14_1).f4.f1).im)) ∧ w'.cell? ⟨gb315, 6, none⟩ = some (.complex .f32 (((rd_T66 s0_3 x14_1).f4.f2).re) (((rd_T66 s0_3 x14_1).f4.f2).im)) ∧ w'.cell? ⟨gb315, 7, none⟩ = some (.int .i64 ((rd_T66 s0_3 x14_1).f5)) ∧ w'.cell? (ad316.add ((x14_1).toNat * 3)) = some (.complex .f32 (((rd_T39 l1 x14_1).f0).re) (((rd_T39 l1 x14_1).f0).im)) ∧ w'.cell? ⟨(ad316.add ((x14_1).toNat * 3)).block, (ad316.add ((x14_1).toNat * 3)).off + 1, none⟩ = some (.complex .f32 (((rd_T39 l1 x14_1).f1).re) (((rd_T39 l1 x14_1).f1).im)) ∧ w'.cell? ⟨(ad316.add ((x14_1).toNat * 3)).block, (ad316.add ((x14_1).toNat * 3)).off + 2, none⟩ = some (.complex .f32 (((rd_T39 l1 x14_1).f2).re) (((rd_T39 l1 x14_1).f2).im))) (ds := [7, 8]) #[false, false, false, false, false, false, false, false, false, false] (by kernel_rfl) rfl rfl ⟨(blk_cell BK315.out 0).trans rfl, (blk_cell BK315.out 1).trans rfl, (blk_cell BK315.out 2).trans rfl, (blk_cell BK315.out 3).trans rfl, (blk_cell BK315.out 4).trans rfl, (blk_cell BK315.out 5).trans rfl, (blk_cell BK315.out 6).trans rfl, (blk_cell BK315.out 7).trans rfl, hx316_0, hx316_1, hx316_2⟩ (fun hHeld => ?_); refine with_tabW impl_Feeder_loads.tab5 impl_Feeder_loads.bits5 (fun HT_ HW_ => ?_)
        generalize w15.drew = w16 at HO_5 BK315 HI0 HK HB hx316_0 hx316_1 hx316_2 hHeld ⊢
        refine pure_ (i := 0) (N := some 19) (v := ?_) (a' := ?_) #[true, false, false, false, false, false, false, false, false, false] rfl rfl (any_of HT_.out (by kernel_rfl)) (fun _ _ _ h => h) (Or.inl ⟨by rfl, ?_⟩) ?_ ?_
        rotate_left
        ·intro w'
         go_simp
         with_reducible rfl
        rotate_left
        ·refine ps_ ?_
         rfl
        refine pure_ (i := 2) (N := some 21) (v := ?_) (a' := ?_) #[true, false, true, false, false, false, false, false, false, false] rfl rfl (any_of HT_.out (by kernel_rfl)) (fun _ _ _ h => h) (Or.inl ⟨by rfl, ?_⟩) ?_ ?_
        rotate_left
        ·intro w'
         go_simp
         with_reducible rfl
        rotate_left
        ·refine ps_ ?_
         rfl
        refine pure_ (i := 3) (N := some 22) (v := ?_) (a' := ?_) #[true, false, true, true, false, false, false, false, false, false] rfl rfl (any_of HT_.out (by kernel_rfl)) (fun _ _ _ h => h) (Or.inl ⟨by rfl, ?_⟩) ?_ ?_
        rotate_left
        ·intro w'
         go_simp
         with_reducible rfl
        rotate_left
        ·refine ps_ ?_
         rfl
        refine pure_ (i := 4) (N := some 23) (v := ?_) (a' := ?_) #[true, false, true, true, true, false, false, false, false, false] rfl rfl (any_of HT_.out (by kernel_rfl)) (fun _ _ _ h => h) (Or.inl ⟨by rfl, ?_⟩) ?_ ?_
        rotate_left
        ·intro w'
         go_simp
         with_reducible rfl
        rotate_left
        ·refine ps_ ?_
         rfl
        refine take_ (i := 1) (N := some 20) (v := ?_) (a' := ?_) #[true, true, true, true, true, false, false, false, false, false] rfl rfl (take_ofW HT_.out HW_.out (by kernel_rfl)) (fun _ _ _ h => h) (Or.inl ⟨by rfl, ?_⟩) hHeld ?_ ?_
        rotate_left
        ·rintro w' ⟨s0, s1, s2, s3, s4, s5, s6, s7, s8, s9, s10⟩
         go_simp
         with_reducible rfl
        rotate_left
        ·refine ps_ ?_
         rfl
        refine take_ (i := 5) (N := some 24) (v := ?_) (a' := ?_) #[true, true, true, true, true, true, false, false, false, false] rfl rfl (take_ofW HT_.out HW_.out (by kernel_rfl)) (fun _ _ _ h => h) (Or.inl ⟨by rfl, ?_⟩) hHeld ?_ ?_
        rotate_left
        ·rintro w' ⟨s0, s1, s2, s3, s4, s5, s6, s7, s8, s9, s10⟩
         go_simp
         with_reducible rfl
        rotate_left
        ·refine ps_ ?_
         rfl
        refine one_ (i := 6) (N := some 25) #[true, true, true, true, true, true, true, false, false, false] rfl rfl (one_of HT_.out (by kernel_rfl)) (by decide) (fun K hK => ?_)
        refine goes_ Try.func150 (by kernel_rfl) rfl #[.agg #[.int .i64 ((rd_T66 s0_3 x14_1).f0), .complex .f32 (((rd_T66 s0_3 x14_1).f1).re) (((rd_T66 s0_3 x14_1).f1).im), .complex .f32 (((rd_T66 s0_3 x14_1).f2).re) (((rd_T66 s0_3 x14_1).f2).im), .int .i64 ((rd_T66 s0_3 x14_1).f3), .complex .f32 (((rd_T66 s0_3 x14_1).f4.f0).re) (((rd_T66 s0_3 x14_1).f4.f0).im), .complex .f32 (((rd_T66 s0_3 x14_1).f4.f1).re) (((rd_T66 s0_3 x14_1).f4.f1).im), .complex .f32 (((rd_T66 s0_3 x14_1).f4.f2).re) (((rd_T66 s0_3 x14_1).f4.f2).im), .int .i64 ((rd_T66 s0_3 x14_1).f5)], .agg #[.complex .f32 (((rd_T39 l1 x14_1).f0).re) (((rd_T39 l1 x14_1).f0).im), .complex .f32 (((rd_T39 l1 x14_1).f1).re) (((rd_T39 l1 x14_1).f1).im), .complex .f32 (((rd_T39 l1 x14_1).f2).re) (((rd_T39 l1 x14_1).f2).im)]] (by rfl) rfl rfl mp_ ?_
        with_reducible refine (impl_LoadCurrentOf.calls ((rd_T66 s0_3 x14_1).f0) ((rd_T66 s0_3 x14_1).f1) ((rd_T66 s0_3 x14_1).f2) ((rd_T66 s0_3 x14_1).f3) ((rd_T66 s0_3 x14_1).f4.f0) ((rd_T66 s0_3 x14_1).f4.f1) ((rd_T66 s0_3 x14_1).f4.f2) ((rd_T66 s0_3 x14_1).f5) ((rd_T39 l1 x14_1).f0) ((rd_T39 l1 x14_1).f1) ((rd_T39 l1 x14_1).f2) t317 t318 t319 _ A10.out).mono ?_
        rintro e w17 ⟨rfl, hb⟩
        have HS8_ := (hb.cell (World.block_lt_of_cell? _ _ (hHeld.2.2.2.2.2.2.2.2.1))).trans (hHeld.2.2.2.2.2.2.2.2.1)
        have HS9_ := (hb.cell (World.block_lt_of_cell? _ _ (hHeld.2.2.2.2.2.2.2.2.2.1))).trans (hHeld.2.2.2.2.2.2.2.2.2.1)
        have HS10_ := (hb.cell (World.block_lt_of_cell? _ _ (hHeld.2.2.2.2.2.2.2.2.2.2))).trans (hHeld.2.2.2.2.2.2.2.2.2.2)
        refine ⟨_, rfl, ?_⟩
        have n0_ := Aside0.mk (Kd.R_below (ru HO_5.out) hb)
        have n1_ := Aside0.mk (IsS42.below (by have hi_ := HI0.out; exact IsS42.up) hb)
        have n2_ := Aside0.mk (blk_below (g := gb315) (o := .cells #[.int .i64 ((rd_T66 s0_3 x14_1).f0), .complex .f32 (((rd_T66 s0_3 x14_1).f1).re) (((rd_T66 s0_3 x14_1).f1).im), .complex .f32 (((rd_T66 s0_3 x14_1).f2).re) (((rd_T66 s0_3 x14_1).f2).im), .int .i64 ((rd_T66 s0_3 x14_1).f3), .complex .f32 (((rd_T66 s0_3 x14_1).f4.f0).re) (((rd_T66 s0_3 x14_1).f4.f0).im), .complex .f32 (((rd_T66 s0_3 x14_1).f4.f1).re) (((rd_T66 s0_3 x14_1).f4.f1).im), .complex .f32 (((rd_T66 s0_3 x14_1).f4.f2).re) (((rd_T66 s0_3 x14_1).f4.f2).im), .int .i64 ((rd_T66 s0_3 x14_1).f5)] 66 (0, 0)) (bu BK315.out) hb)
        have n3_ := Aside0.mk (KeepBut.trans (by repeat (first | (with_reducible first | exact HK.out | apply KeepBut.set_ | apply keep_drewN | apply keep_drew | apply keep_alloc | refine keep_far ?_ GW315.out _) | exact HK.out)) (KeepBut.of_below hb g none) (.inl rfl))
        have n4_ := Aside0.mk (below_step (by have ge_ := IsS42.ge HI0.out; exact tb) hb)
        clear HO_5
        clear HI0
        clear BK315
        clear HK
        clear HB
        have HO_5 := n0_
        have HI0 := n1_
        have BK315 := n2_
        have HK := n3_
        have HB := n4_
        clear n0_ n1_ n2_ n3_ n4_
        (try clear hb)
        (try clear hb2)
        (try clear hk)
        (try clear hi)
        refine hK.out _ _ ⟨(blk_cell BK315.out 0).trans rfl, (blk_cell BK315.out 1).trans rfl, (blk_cell BK315.out 2).trans rfl, (blk_cell BK315.out 3).trans rfl, (blk_cell BK315.out 4).trans rfl, (blk_cell BK315.out 5).trans rfl, (blk_cell BK315.out 6).trans rfl, (blk_cell BK315.out 7).trans rfl, HS8_, HS9_, HS10_⟩ (fun hHeld => ?_)
        clear hK K
        refine norm_ (a' := ?_) ?_ ?_
        rotate_left
        ·show Act.put _ (some 25) _ = _
         refine ps_ ?_
         rfl
        refine last_ (i := 7) (N := some 26) #[true, true, true, true, true, true, true, true, false, false] rfl rfl (one_of HT_.out (by kernel_rfl)) (by decide) (fun K hK => ?_)
        refine value_ (w1 := ?_) (v := ?_) (by rfl) rfl ?_ ?_
        rotate_left 2
        ·go_simp
         constructor
         ·rfl
         ·rfl
        refine hK.out _ _ ?_
        clear hK K
        refine norm_ (a' := ?_) ?_ ?_
        rotate_left
        ·show Act.put _ (some 26) _ = _
         refine ps_ ?_
         rfl
        refine last_ (i := 8) (N := some 27) #[true, true, true, true, true, true, true, true, true, false] rfl rfl (one_of HT_.out (by kernel_rfl)) (by decide) (fun K hK => ?_)
        refine Kd.R_append_step k39 w.heap.size (by rfl) (.tmp 19) (.tmp 26) 44 39 (.agg #[(.complex .f32 0 0), (.complex .f32 0 0), (.complex .f32 0 0)]) 24 rfl Try.underlying44 info39 rfl (by decide) (by omega) u5 x5_1 (⟨t317, t318, t319⟩ : S39) [.complex .f32 t317.re t317.im, .complex .f32 t318.re t318.im, .complex .f32 t319.re t319.im] (fun _ => True) (fun _ => False) rfl rfl ?aP (fun _ hk => hk.elim) ?aF ?aO (Below.refl _ _) ?aS ?aL ?_
        (case aP => exact k39_mkM _ _ _ (⟨t317, t318, t319⟩ : S39))
        (case aF => exact (fun _ _ => trivial))
        (case aO => exact (ru HO_5.out))
        (case aS => exact (keep_size (w := w) (g := g) (row := none) (by repeat (first | (with_reducible first | exact HK.out | apply KeepBut.set_ | apply keep_drewN | apply keep_drew | apply keep_alloc | refine keep_far ?_ GW315.out _) | exact HK.out))))
        (case aL => have := LMc11.out; omega)
        intro v321 w18 ho hb hg hat
        rw [← Ny320.out] at ho
        have n0_ := Aside0.mk (IsS42.grown (show IsS42 w0 _ g s0_0 s0_1 s0_2 s0_3 from by have hi_ := HI0.out; exact IsS42.up) hg (IsS42.own_ne HI0.out HO_5.out (by decide)))
        have n1_ := Aside0.mk (blk_grown (g := gb315) (o := .cells #[.int .i64 ((rd_T66 s0_3 x14_1).f0), .complex .f32 (((rd_T66 s0_3 x14_1).f1).re) (((rd_T66 s0_3 x14_1).f1).im), .complex .f32 (((rd_T66 s0_3 x14_1).f2).re) (((rd_T66 s0_3 x14_1).f2).im), .int .i64 ((rd_T66 s0_3 x14_1).f3), .complex .f32 (((rd_T66 s0_3 x14_1).f4.f0).re) (((rd_T66 s0_3 x14_1).f4.f0).im), .complex .f32 (((rd_T66 s0_3 x14_1).f4.f1).re) (((rd_T66 s0_3 x14_1).f4.f1).im), .complex .f32 (((rd_T66 s0_3 x14_1).f4.f2).re) (((rd_T66 s0_3 x14_1).f4.f2).im), .int .i64 ((rd_T66 s0_3 x14_1).f5)] 66 (0, 0)) (bu BK315.out) hg (Kd.R_ne HO_5.out BK315.out (by decide)))
        have n2_ := Aside0.mk (below_weaken (by have ge_ := IsS42.ge HI0.out; exact tb) HL.out hb)
        have n3_ := Aside0.mk (KeepBut.trans (by repeat (first | (with_reducible first | exact HK.out | apply KeepBut.set_ | apply keep_drewN | apply keep_drew | apply keep_alloc | refine keep_far ?_ GW315.out _) | exact HK.out)) (KeepBut.of_grown hg g) (Kd.R_base2 HO_5.out))
        have n4_ := Aside0.mk (ho)
        clear HI0
        clear BK315
        clear HB
        clear HK
        clear HO_5
        have HI0 := n0_
        have BK315 := n1_
        have HB := n2_
        have HK := n3_
        have HO322 := n4_
        clear n0_ n1_ n2_ n3_ n4_
        clear ho hb hg hat
        refine hK.out _ _ ?_
        clear hK K
        refine norm_ (a' := ?_) ?_ ?_
        rotate_left
        ·show Act.put _ (some 27) _ = _
         refine ps_ ?_
         rfl
        refine pure_ (i := 9) (N := some 5) (v := ?_) (a' := ?_) #[true, true, true, true, true, true, true, true, true, true] rfl rfl (any_of HT_.out (by kernel_rfl)) (fun _ _ _ h => h) (Or.inl ⟨by rfl, ?_⟩) ?_ ?_
        rotate_left
        ·intro w'
         go_simp
         with_reducible rfl
        rotate_left
        ·refine ps_ ?_
         rfl
        refine done_ (done_of HT_.out (by kernel_rfl)) ?_
        try go_wp2
        go_roundg k1
        case measure => have := HK1.out; omega
        case rel => exact ⟨(y320), (wrap64 (x14_1 + 1)), rs_, H', ⟨by have := HK1.out; omega⟩, ⟨by refine ru ?_; exact HO322.out⟩, ⟨by have hi_ := HI0.out; exact IsS42.up⟩, ⟨by repeat (first | (with_reducible first | exact HK.out | apply KeepBut.set_ | apply keep_drewN | apply keep_drew | apply keep_alloc | refine keep_far ?_ GW315.out _) | exact HK.out)⟩, ⟨by have ge_ := IsS42.ge HI0.out; exact tb⟩⟩
       ·rw [if_neg c11] at H
        exact absurd H (by simp)
      ·rw [if_neg c9] at H
       exact absurd H (by simp)
     ·rw [if_neg c8] at H
      exact absurd H (by simp)
    ·rw [if_neg c7] at H
     exact absurd H (by simp)
   ·rw [if_neg c6] at H
    have c6b0 : decide (x14_1 < (s0_3.length : Int)) = false := decide_eq_false c6
    clear c6
    simp only [Option.some.injEq, Prod.mk.injEq] at H
    obtain ⟨rfl, rfl, rfl, rfl⟩ := H
    go_wp2
    go_ret
    exact ⟨_, re_, by refine ru ?_; exact HO_5.out, by have hi_ := HI0.out; exact IsS42.up, by have ge_ := IsS42.ge HI0.out; exact tb, by repeat (first | (with_reducible first | exact HK.out | apply KeepBut.set_ | apply keep_drewN | apply keep_drew | apply keep_alloc) | exact HK.out)⟩

end Go.Proofs.Ytcgpomicgbmdlaa.PFnBanks
namespace Go.Proofs.Ytcgpomicgbmdlaa.PFnBanks
open Go.RowKit Go.Proofs.YtcgpomicgbmdlaaW.PrintWords Go.Proofs.YtcgpomicgbmdlaaW.PrintLast Go.Proofs.YtcgpomicgbmdlaaW.PrintMore
attribute [local go_sem] max2_int min2_int max_two min_two max_three min_three max_four min_four   -- for this text's walks alone
set_option linter.unusedVariables false
set_option linter.unusedSimpArgs false

/-! ### slices_Clone_impl_Phases: function 140 -/
def slices_Clone_impl_Phases.f (l0 : List (S39)) : Option ((List (S39))) := (some (([] : List (S39)) : List (S39))).bind fun y323 => (if y323.length + l0.length < 5864062014805 then (some (y323 ++ l0)) else (none))
set_option maxHeartbeats 8000000 in
set_option maxRecDepth 100000 in
theorem slices_Clone_impl_Phases.calls_some (ad0_ : Addr) (c0 : Nat) (l0 : List (S39)) (r : List (S39)) (w : World) (hr0 : Kd.C k39 w (some ad0_) l0.length l0) (hc0 : l0.length ≤ c0) (h : slices_Clone_impl_Phases.f l0 = some r) :
  Calls Try.prog 140 #[.slice (some ad0_) l0.length c0] w fun e w' => ∃ v0_ : Value, e = .returned (v0_) ∧ Kd.R k39 39 w' w.heap.size (fun _ => True) v0_ r ∧ Below w.heap.size w w' := by
 have hun_ := Try.underlying44
 have HR0 := Aside0.mk hr0
 have HC0 := Aside0.mk hc0
 clear hr0 hc0
 have HB := Aside0.mk (Below.refl w.heap.size w)
 have H : ((some (([] : List (S39)) : List (S39))).bind fun y323 => (if y323.length + l0.length < 5864062014805 then (some (y323 ++ l0)) else (none))) = some r := h
 clear h
 obtain ⟨y323, hy323⟩ : ∃ y_ : List (S39), y_ = (([] : List (S39))) := ⟨_, rfl⟩
 replace H : (if y323.length + l0.length < 5864062014805 then (some (y323 ++ l0)) else (none)) = some r := by first | (rw [hy323]; with_reducible exact H) | (have H2_ := (Option.bind_some _ _).symm.trans H; rw [hy323]; with_reducible exact H2_) | (have H2_ := (Option.bind_some _ _).symm.trans H; with_reducible exact H2_) | with_reducible exact H | (rw [hy323]; exact H) | exact H
 have Ny323 := Aside0.mk hy323
 clear hy323
 by_cases c2 : y323.length + l0.length < 5864062014805
 ·rw [if_pos c2] at H
  have LMc2 := Aside0.mk c2
  clear c2
  obtain ⟨y326, hy326⟩ : ∃ y_ : List (S39), y_ = (y323 ++ l0) := ⟨_, rfl⟩
  replace H : (some y326) = some r := by first | (rw [hy326]; with_reducible exact H) | (have H2_ := (Option.bind_some _ _).symm.trans H; rw [hy326]; with_reducible exact H2_) | (have H2_ := (Option.bind_some _ _).symm.trans H; with_reducible exact H2_) | with_reducible exact H | (rw [hy326]; exact H) | exact H
  have Ny326 := Aside0.mk hy326
  clear hy326
  obtain rfl := Option.some.inj H
  go_enter Try.func140, Try.ntmps140
  go_wp2_with (first | ((with_reducible refine gate_dst (N := 5) rfl ?_); refine Kd.R_lit k39 _ 39 ?hg (N := 5) ?hd (xs := ([] : List (S39))) (inner := []) (ok := fun _ => True) (okp := fun _ => True) ?hr ?hp (fun _ hk => hk) trivial (Below.refl _ _) (Nat.le_refl _) (by simp) ?_; (case hd => rfl); (case hg => rfl); (case hr => first | (go_simp; done) | (go_simp; rfl)); (case hp => exact (Reps.none _ _)); intro v324 w3 ho4 hb hg_ hnew_; clear hg_ hnew_; (first | rw [← Ny323.out] at ho4 | (simp only [Int.reduceToNat] at ho4; rw [← Ny323.out] at ho4)); have n0_ := Aside0.mk (Kd.R_lower ho4 (below_size tb)); have n1_ := Aside0.mk (below_step tb hb); clear HB; have HO325 := n0_; have HB := n1_; clear n0_ n1_; clear hb ho4) | ((with_reducible refine gate_builtin (b := .append) (xs := #[.tmp 5, .tmp 6]) rfl ?_); at_builtin; refine Kd.R_append_rows k39 (w0 := w) w.heap.size rfl (.tmp 5) (.tmp 6) 44 39 (.agg #[(.complex .f32 0 0), (.complex .f32 0 0), (.complex .f32 0 0)]) 24 rfl Try.underlying44 info39 rfl (by decide) (by omega) v324 y323 l0 _ _ _ (fun _ => True) (fun _ => False) rfl rfl ?aO ?aR (fun _ _ h => h) (fun _ h => h.elim) ?aF ?aB ?aS ?aL ?_; (case aR => exact cu ((Kd.C_below HR0.out HB.out))); (case aB => exact tb); (case aF => exact (fun _ _ => trivial)); (case aO => exact (ru HO325.out)); (case aS => exact (below_size tb)); (case aL => have := LMc2.out; omega); intro v327 w5 ho hb hg hat; rw [← Ny326.out] at ho; have n0_ := Aside0.mk (hb); have n1_ := Aside0.mk (ho); clear HB; clear HO325; have HB := n0_; have HO328 := n1_; clear n0_ n1_; clear ho hb hg hat))
  go_ret
  exact ⟨_, re_, by refine ru ?_; exact HO328.out, tb⟩
 ·rw [if_neg c2] at H
  exact absurd H (by simp)
-- HU 44
set_option maxHeartbeats 8000000 in
set_option maxRecDepth 100000 in
theorem slices_Clone_impl_Phases.calls (A0 : Option Addr) (c0 : Nat) (l0 : List (S39)) (r : List (S39)) (w : World) (hr0 : Kd.C k39 w A0 l0.length l0) (hc0 : l0.length ≤ c0) (h : slices_Clone_impl_Phases.f l0 = some r) :
  Calls Try.prog 140 #[.slice A0 l0.length c0] w fun e w' => ∃ v0_ : Value, e = .returned (v0_) ∧ Kd.R k39 39 w' w.heap.size (fun _ => True) v0_ r ∧ Below w.heap.size w w' := by
 cases A0 with
 | some ad => exact slices_Clone_impl_Phases.calls_some ad c0 l0 r w hr0 hc0 h
 | none =>
  have hl : l0 = [] := by
   obtain ⟨_, _, h3⟩ := hr0
   cases l0 with
   | nil => rfl
   | cons x xs => simpa using h3 (by simp)
  subst hl
  have hr : r = [] := by simpa [slices_Clone_impl_Phases.f, eq_comm] using h
  subst hr
  clear h hr0 hc0
  have hu44 := Try.underlying44
  go_enter Try.func140, Try.ntmps140
  go_wp2
  go_ret
  exact ⟨_, rfl, Kd.R_nil _ _ _ _ _, Below.refl _ _⟩

end Go.Proofs.Ytcgpomicgbmdlaa.PFnBanks
namespace Go.Proofs.Ytcgpomicgbmdlaa.PFnBanks
open Go.RowKit Go.Proofs.YtcgpomicgbmdlaaW.PrintWords Go.Proofs.YtcgpomicgbmdlaaW.PrintLast Go.Proofs.YtcgpomicgbmdlaaW.PrintMore
attribute [local go_sem] max2_int min2_int max_two min_two max_three min_three max_four min_four   -- for this text's walks alone
set_option linter.unusedVariables false
set_option linter.unusedSimpArgs false

/-! ### impl_plus: function 173 -/
def impl_plus.f (a0 : Cx) (a1 : Cx) : Option (Cx) := if fok .add .f32 a0.re a1.re = true then (if fok .add .f32 a0.im a1.im = true then (some (⟨fv .add .f32 a0.re a1.re, fv .add .f32 a0.im a1.im⟩ : Cx)) else (none)) else (none)
set_option maxHeartbeats 8000000 in
set_option maxRecDepth 100000 in
theorem impl_plus.calls (a0 : Cx) (a1 : Cx) (r : Cx) (w : World) (h : impl_plus.f a0 a1 = some r) :
  Calls Try.prog 173 #[.complex .f32 a0.re a0.im, .complex .f32 a1.re a1.im] w fun e w' => e = .returned (.complex .f32 r.re r.im) ∧ Drawn0 w w' := by
 have H : (if fok .add .f32 a0.re a1.re = true then (if fok .add .f32 a0.im a1.im = true then (some (⟨fv .add .f32 a0.re a1.re, fv .add .f32 a0.im a1.im⟩ : Cx)) else (none)) else (none)) = some r := h
 clear h
 by_cases c3 : fok .add .f32 a0.re a1.re = true
 ·rw [if_pos c3] at H
  have c3b0 := eq_true c3
  have c3b1 : decide (fok .add .f32 a0.re a1.re = true) = true := decide_eq_true c3
  clear c3
  by_cases c4 : fok .add .f32 a0.im a1.im = true
  ·rw [if_pos c4] at H
   have c4b0 := eq_true c4
   have c4b1 : decide (fok .add .f32 a0.im a1.im = true) = true := decide_eq_true c4
   clear c4
   obtain rfl := Option.some.inj H
   go_enter Try.func173, Try.ntmps173
   go_wp2
   go_ret
   exact ⟨rs_, dr_⟩
  ·rw [if_neg c4] at H
   exact absurd H (by simp)
 ·rw [if_neg c3] at H
  exact absurd H (by simp)

end Go.Proofs.Ytcgpomicgbmdlaa.PFnBanks
namespace Go.Proofs.Ytcgpomicgbmdlaa.PFnBanks
open Go.RowKit Go.Proofs.YtcgpomicgbmdlaaW.PrintWords Go.Proofs.YtcgpomicgbmdlaaW.PrintLast Go.Proofs.YtcgpomicgbmdlaaW.PrintMore
attribute [local go_sem] max2_int min2_int max_two min_two max_three min_three max_four min_four   -- for this text's walks alone
set_option linter.unusedVariables false
set_option linter.unusedSimpArgs false

/-! ### impl_each_f173: function 152 -/
def impl_each_f173.f (a0_0 : Cx) (a0_1 : Cx) (a0_2 : Cx) (a1_0 : Cx) (a1_1 : Cx) (a1_2 : Cx)  : Option (Cx × Cx × Cx) := (impl_plus.f a0_0 a1_0).bind fun t332 => ((impl_plus.f a0_1 a1_1).bind fun t333 => ((impl_plus.f a0_2 a1_2).bind fun t334 => (some (t332, t333, t334))))
def impl_each_f173.T1 : Bool × List (List Nat × List Nat) := (true, [([], []), ([], []), ([1], [1]), ([], []), ([3], [3]), ([0, 2, 4], [0, 2, 4]), ([], []), ([], []), ([7], [7]), ([], []), ([9], [9]), ([6, 8, 10, 5], [6, 8, 10]), ([], []), ([], []), ([13], [13]), ([], []), ([15], [15]), ([12, 14, 16, 11], [12, 14, 16]), ([5, 11, 17], [5, 11, 17]), ([18, 17, 0, 1, 2, 3, 4, 5, 6, 7, 8, 9, 10, 11, 12, 13, 14, 15, 16, 17, 18], [18])])
def impl_each_f173.B1 : List Nat := [0, 0, 2, 0, 8, 31, 0, 0, 128, 0, 512, 2047, 0, 0, 8192, 0, 32768, 131071, 262143, 524287]
theorem impl_each_f173.tab1 : rtab .any (opsOf Try.f152 1) = impl_each_f173.T1 := by kernel_rfl
theorem impl_each_f173.bits1 : waitsOk impl_each_f173.T1.2 impl_each_f173.B1 = true := by kernel_rfl
set_option maxHeartbeats 8000000 in
set_option maxRecDepth 100000 in
theorem impl_each_f173.calls (a0_0 : Cx) (a0_1 : Cx) (a0_2 : Cx) (a1_0 : Cx) (a1_1 : Cx) (a1_2 : Cx)  (r1 : Cx) (r2 : Cx) (r3 : Cx) (w : World) (h : impl_each_f173.f a0_0 a0_1 a0_2 a1_0 a1_1 a1_2 = some (r1, r2, r3)) :
  Calls Try.prog 152 #[.agg #[.complex .f32 a0_0.re a0_0.im, .complex .f32 a0_1.re a0_1.im, .complex .f32 a0_2.re a0_2.im], .agg #[.complex .f32 a1_0.re a1_0.im, .complex .f32 a1_1.re a1_1.im, .complex .f32 a1_2.re a1_2.im], .func (.func 173) #[] #[]] w fun e w' => e = .returned (.agg #[.complex .f32 r1.re r1.im, .complex .f32 r2.re r2.im, .complex .f32 r3.re r3.im]) ∧ Below w.heap.size w w' := by
 have hu39 := Try.underlying39
 have HB := Aside0.mk (Below.refl w.heap.size w)
 have H : ((impl_plus.f a0_0 a1_0).bind fun t332 => ((impl_plus.f a0_1 a1_1).bind fun t333 => ((impl_plus.f a0_2 a1_2).bind fun t334 => (some (t332, t333, t334))))) = some (r1, r2, r3) := h
 clear h
 replace H := Option.bind_eq_some_iff.mp H
 obtain ⟨t332, A40, H⟩ := H
 try dsimp only at H
 have A4 := Aside0.mk A40
 clear A40
 replace H := Option.bind_eq_some_iff.mp H
 obtain ⟨t333, A50, H⟩ := H
 try dsimp only at H
 have A5 := Aside0.mk A50
 clear A50
 replace H := Option.bind_eq_some_iff.mp H
 obtain ⟨t334, A60, H⟩ := H
 try dsimp only at H
 have A6 := Aside0.mk A60
 clear A60
 simp only [Option.some.injEq, Prod.mk.injEq] at H
 obtain ⟨rfl, rfl, rfl⟩ := H
 go_enter Try.func152, Try.ntmps152
 try go_wp2_with (first | ((with_reducible refine gate_dst (N := 3) rfl ?_); refine box_event ?hg (N := 3) ?hd (cs := #[.complex .f32 a0_0.re a0_0.im, .complex .f32 a0_1.re a0_1.im, .complex .f32 a0_2.re a0_2.im]) (t := 39) ?hr ?_; (case hd => rfl); (case hg => rfl); (case hr => first | (go_simp; done) | (go_simp; rfl)); intro gb329 hg w7 hbox hb; have n0_ := Aside0.mk (below_step tb hb); have n1_ := Aside0.mk (hbox); have n2_ := Aside0.mk ((by rw [hg]; exact (below_size tb) : w.heap.size ≤ gb329)); have n3_ := Aside0.mk ((by rw [hg]; exact (below_size tb) : w.heap.size ≤ gb329)); clear HB; have HB := n0_; have BK329 := n1_; have GW329 := n2_; have GE329 := n3_; clear n0_ n1_ n2_ n3_; clear hb hbox hg) | ((with_reducible refine gate_dst (N := 4) rfl ?_); refine box_event ?hg (N := 4) ?hd (cs := #[.complex .f32 a1_0.re a1_0.im, .complex .f32 a1_1.re a1_1.im, .complex .f32 a1_2.re a1_2.im]) (t := 39) ?hr ?_; (case hd => rfl); (case hg => rfl); (case hr => first | (go_simp; done) | (go_simp; rfl)); intro gb330 hg w8 hbox hb; have n0_ := Aside0.mk (blk_below (g := gb329) (o := .cells #[.complex .f32 a0_0.re a0_0.im, .complex .f32 a0_1.re a0_1.im, .complex .f32 a0_2.re a0_2.im] 39 (0, 0)) (bu BK329.out) hb); have n1_ := Aside0.mk (below_step tb hb); have n2_ := Aside0.mk (hbox); have n3_ := Aside0.mk ((by rw [hg]; exact (below_size tb) : w.heap.size ≤ gb330)); have n4_ := Aside0.mk ((by rw [hg]; exact (below_size tb) : w.heap.size ≤ gb330)); have n5_ := Aside0.mk ((by rw [hg]; exact Nat.ne_of_lt (blk_lt (g := gb329) (o := .cells #[.complex .f32 a0_0.re a0_0.im, .complex .f32 a0_1.re a0_1.im, .complex .f32 a0_2.re a0_2.im] 39 (0, 0)) (bu BK329.out)) : gb329 ≠ gb330)); have n6_ := Aside0.mk ((by rw [hg]; exact Nat.ne_of_gt (blk_lt (g := gb329) (o := .cells #[.complex .f32 a0_0.re a0_0.im, .complex .f32 a0_1.re a0_1.im, .complex .f32 a0_2.re a0_2.im] 39 (0, 0)) (bu BK329.out)) : gb330 ≠ gb329)); clear BK329; clear HB; have BK329 := n0_; have HB := n1_; have BK330 := n2_; have GW330 := n3_; have GE330 := n4_; have NB329_330 := n5_; have NB330_329 := n6_; clear n0_ n1_ n2_ n3_ n4_ n5_ n6_; clear hb hbox hg) | ((with_reducible refine gate_dst (N := 6) rfl ?_); refine box_event ?hg (N := 6) ?hd (cs := #[.complex .f32 0 0, .complex .f32 0 0, .complex .f32 0 0]) (t := 39) ?hr ?_; (case hd => rfl); (case hg => rfl); (case hr => first | (go_simp; done) | (go_simp; rfl)); intro gb331 hg w9 hbox hb; have n0_ := Aside0.mk (blk_below (g := gb329) (o := .cells #[.complex .f32 a0_0.re a0_0.im, .complex .f32 a0_1.re a0_1.im, .complex .f32 a0_2.re a0_2.im] 39 (0, 0)) (bu BK329.out) hb); have n1_ := Aside0.mk (blk_below (g := gb330) (o := .cells #[.complex .f32 a1_0.re a1_0.im, .complex .f32 a1_1.re a1_1.im, .complex .f32 a1_2.re a1_2.im] 39 (0, 0)) (bu BK330.out) hb); have n2_ := Aside0.mk (below_step tb hb); have n3_ := Aside0.mk (hbox); have n4_ := Aside0.mk ((by rw [hg]; exact (below_size tb) : w.heap.size ≤ gb331)); have n5_ := Aside0.mk ((by rw [hg]; exact (below_size tb) : w.heap.size ≤ gb331)); have n6_ := Aside0.mk ((by rw [hg]; exact Nat.ne_of_lt (blk_lt (g := gb329) (o := .cells #[.complex .f32 a0_0.re a0_0.im, .complex .f32 a0_1.re a0_1.im, .complex .f32 a0_2.re a0_2.im] 39 (0, 0)) (bu BK329.out)) : gb329 ≠ gb331)); have n7_ := Aside0.mk ((by rw [hg]; exact Nat.ne_of_gt (blk_lt (g := gb329) (o := .cells #[.complex .f32 a0_0.re a0_0.im, .complex .f32 a0_1.re a0_1.im, .complex .f32 a0_2.re a0_2.im] 39 (0, 0)) (bu BK329.out)) : gb331 ≠ gb329)); have n8_ := Aside0.mk ((by rw [hg]; exact Nat.ne_of_lt (blk_lt (g := gb330) (o := .cells #[.complex .f32 a1_0.re a1_0.im, .complex .f32 a1_1.re a1_1.im, .complex .f32 a1_2.re a1_2.im] 39 (0, 0)) (bu BK330.out)) : gb330 ≠ gb331)); have n9_ := Aside0.mk ((by rw [hg]; exact Nat.ne_of_gt (blk_lt (g := gb330) (o := .cells #[.complex .f32 a1_0.re a1_0.im, .complex .f32 a1_1.re a1_1.im, .complex .f32 a1_2.re a1_2.im] 39 (0, 0)) (bu BK330.out)) : gb331 ≠ gb330)); clear BK329; clear BK330; clear HB; have BK329 := n0_; have BK330 := n1_; have HB := n2_; have BK331 := n3_; have GW331 := n4_; have GE331 := n5_; have NB329_331 := n6_; have NB331_329 := n7_; have NB330_331 := n8_; have NB331_330 := n9_; clear n0_ n1_ n2_ n3_ n4_ n5_ n6_ n7_ n8_ n9_; clear hb hbox hg))
 have n0_ := Aside0.mk (blk_drew BK329.out)
 have n1_ := Aside0.mk (blk_drew BK330.out)
 have n2_ := Aside0.mk (blk_drew BK331.out)
 have n3_ := Aside0.mk (below_drew1 HB.out)
 clear BK329
 clear BK330
 clear BK331
 clear HB
 have BK329 := n0_
 have BK330 := n1_
 have BK331 := n2_
 have HB := n3_
 clear n0_ n1_ n2_ n3_
 refine start_ (n := 20) (S := fun w' => w'.cell? ⟨gb329, 0, none⟩ = some (.complex .f32 a0_0.re a0_0.im) ∧ w'.cell? ⟨gb329, 1, none⟩ = some (.complex .f32 a0_1.re a0_1.im) ∧ w'.cell? ⟨gb329, 2, none⟩ = some (.complex .f32 a0_2.re a0_2.im) ∧ w'.cell? ⟨gb330, 0, none⟩ = some (.complex .f32 a1_0.re a1_0.im) ∧ w'.cell? ⟨gb330, 1, none⟩ = some (.complex .f32 a1_1.re a1_1.im) ∧ w'.cell? ⟨gb330, 2, none⟩ = some (.complex .f32 a1_2.re a1_2.im)) (ds := []) #[false, false, false, false, false, false, false, false, false, false, false, false, false, false, false, false, false, false, false, false] (by kernel_rfl) rfl rfl ⟨(blk_cell BK329.out 0).trans rfl, (blk_cell BK329.out 1).trans rfl, (blk_cell BK329.out 2).trans rfl, (blk_cell BK330.out 0).trans rfl, (blk_cell BK330.out 1).trans rfl, (blk_cell BK330.out 2).trans rfl⟩ (fun hHeld => ?_); refine with_tabW impl_each_f173.tab1 impl_each_f173.bits1 (fun HT_ HW_ => ?_)
 generalize w9.drew = w10 at BK329 BK330 BK331 HB hHeld ⊢
 refine pure_ (i := 0) (N := some 7) (v := ?_) (a' := ?_) #[true, false, false, false, false, false, false, false, false, false, false, false, false, false, false, false, false, false, false, false] rfl rfl (any_of HT_.out (by kernel_rfl)) (fun _ _ _ h => h) (Or.inl ⟨by rfl, ?_⟩) ?_ ?_
 rotate_left
 ·intro w'
  go_simp
  with_reducible rfl
 rotate_left
 ·refine ps_ ?_
  rfl
 refine pure_ (i := 1) (N := some 8) (v := ?_) (a' := ?_) #[true, true, false, false, false, false, false, false, false, false, false, false, false, false, false, false, false, false, false, false] rfl rfl (any_of HT_.out (by kernel_rfl)) (fun _ _ _ h => h) (Or.inl ⟨by rfl, ?_⟩) ?_ ?_
 rotate_left
 ·intro w'
  go_simp
  with_reducible rfl
 rotate_left
 ·refine ps_ ?_
  rfl
 refine pure_ (i := 3) (N := some 10) (v := ?_) (a' := ?_) #[true, true, false, true, false, false, false, false, false, false, false, false, false, false, false, false, false, false, false, false] rfl rfl (any_of HT_.out (by kernel_rfl)) (fun _ _ _ h => h) (Or.inl ⟨by rfl, ?_⟩) ?_ ?_
 rotate_left
 ·intro w'
  go_simp
  with_reducible rfl
 rotate_left
 ·refine ps_ ?_
  rfl
 refine pure_ (i := 6) (N := some 13) (v := ?_) (a' := ?_) #[true, true, false, true, false, false, true, false, false, false, false, false, false, false, false, false, false, false, false, false] rfl rfl (any_of HT_.out (by kernel_rfl)) (fun _ _ _ h => h) (Or.inl ⟨by rfl, ?_⟩) ?_ ?_
 rotate_left
 ·intro w'
  go_simp
  with_reducible rfl
 rotate_left
 ·refine ps_ ?_
  rfl
 refine pure_ (i := 7) (N := some 14) (v := ?_) (a' := ?_) #[true, true, false, true, false, false, true, true, false, false, false, false, false, false, false, false, false, false, false, false] rfl rfl (any_of HT_.out (by kernel_rfl)) (fun _ _ _ h => h) (Or.inl ⟨by rfl, ?_⟩) ?_ ?_
 rotate_left
 ·intro w'
  go_simp
  with_reducible rfl
 rotate_left
 ·refine ps_ ?_
  rfl
 refine pure_ (i := 9) (N := some 16) (v := ?_) (a' := ?_) #[true, true, false, true, false, false, true, true, false, true, false, false, false, false, false, false, false, false, false, false] rfl rfl (any_of HT_.out (by kernel_rfl)) (fun _ _ _ h => h) (Or.inl ⟨by rfl, ?_⟩) ?_ ?_
 rotate_left
 ·intro w'
  go_simp
  with_reducible rfl
 rotate_left
 ·refine ps_ ?_
  rfl
 refine pure_ (i := 12) (N := some 19) (v := ?_) (a' := ?_) #[true, true, false, true, false, false, true, true, false, true, false, false, true, false, false, false, false, false, false, false] rfl rfl (any_of HT_.out (by kernel_rfl)) (fun _ _ _ h => h) (Or.inl ⟨by rfl, ?_⟩) ?_ ?_
 rotate_left
 ·intro w'
  go_simp
  with_reducible rfl
 rotate_left
 ·refine ps_ ?_
  rfl
 refine pure_ (i := 13) (N := some 20) (v := ?_) (a' := ?_) #[true, true, false, true, false, false, true, true, false, true, false, false, true, true, false, false, false, false, false, false] rfl rfl (any_of HT_.out (by kernel_rfl)) (fun _ _ _ h => h) (Or.inl ⟨by rfl, ?_⟩) ?_ ?_
 rotate_left
 ·intro w'
  go_simp
  with_reducible rfl
 rotate_left
 ·refine ps_ ?_
  rfl
 refine pure_ (i := 15) (N := some 22) (v := ?_) (a' := ?_) #[true, true, false, true, false, false, true, true, false, true, false, false, true, true, false, true, false, false, false, false] rfl rfl (any_of HT_.out (by kernel_rfl)) (fun _ _ _ h => h) (Or.inl ⟨by rfl, ?_⟩) ?_ ?_
 rotate_left
 ·intro w'
  go_simp
  with_reducible rfl
 rotate_left
 ·refine ps_ ?_
  rfl
 refine take_ (i := 2) (N := some 9) (v := ?_) (a' := ?_) #[true, true, true, true, false, false, true, true, false, true, false, false, true, true, false, true, false, false, false, false] rfl rfl (take_ofW HT_.out HW_.out (by kernel_rfl)) (fun _ _ _ h => h) (Or.inl ⟨by rfl, ?_⟩) hHeld ?_ ?_
 rotate_left
 ·rintro w' ⟨s0, s1, s2, s3, s4, s5⟩
  go_simp
  with_reducible rfl
 rotate_left
 ·refine ps_ ?_
  rfl
 refine take_ (i := 4) (N := some 11) (v := ?_) (a' := ?_) #[true, true, true, true, true, false, true, true, false, true, false, false, true, true, false, true, false, false, false, false] rfl rfl (take_ofW HT_.out HW_.out (by kernel_rfl)) (fun _ _ _ h => h) (Or.inl ⟨by rfl, ?_⟩) hHeld ?_ ?_
 rotate_left
 ·rintro w' ⟨s0, s1, s2, s3, s4, s5⟩
  go_simp
  with_reducible rfl
 rotate_left
 ·refine ps_ ?_
  rfl
 refine take_ (i := 8) (N := some 15) (v := ?_) (a' := ?_) #[true, true, true, true, true, false, true, true, true, true, false, false, true, true, false, true, false, false, false, false] rfl rfl (take_ofW HT_.out HW_.out (by kernel_rfl)) (fun _ _ _ h => h) (Or.inl ⟨by rfl, ?_⟩) hHeld ?_ ?_
 rotate_left
 ·rintro w' ⟨s0, s1, s2, s3, s4, s5⟩
  go_simp
  with_reducible rfl
 rotate_left
 ·refine ps_ ?_
  rfl
 refine take_ (i := 10) (N := some 17) (v := ?_) (a' := ?_) #[true, true, true, true, true, false, true, true, true, true, true, false, true, true, false, true, false, false, false, false] rfl rfl (take_ofW HT_.out HW_.out (by kernel_rfl)) (fun _ _ _ h => h) (Or.inl ⟨by rfl, ?_⟩) hHeld ?_ ?_
 rotate_left
 ·rintro w' ⟨s0, s1, s2, s3, s4, s5⟩
  go_simp
  with_reducible rfl
 rotate_left
 ·refine ps_ ?_
  rfl
 refine take_ (i := 14) (N := some 21) (v := ?_) (a' := ?_) #[true, true, true, true, true, false, true, true, true, true, true, false, true, true, true, true, false, false, false, false] rfl rfl (take_ofW HT_.out HW_.out (by kernel_rfl)) (fun _ _ _ h => h) (Or.inl ⟨by rfl, ?_⟩) hHeld ?_ ?_
 rotate_left
 ·rintro w' ⟨s0, s1, s2, s3, s4, s5⟩
  go_simp
  with_reducible rfl
 rotate_left
 ·refine ps_ ?_
  rfl
 refine take_ (i := 16) (N := some 23) (v := ?_) (a' := ?_) #[true, true, true, true, true, false, true, true, true, true, true, false, true, true, true, true, true, false, false, false] rfl rfl (take_ofW HT_.out HW_.out (by kernel_rfl)) (fun _ _ _ h => h) (Or.inl ⟨by rfl, ?_⟩) hHeld ?_ ?_
 rotate_left
 ·rintro w' ⟨s0, s1, s2, s3, s4, s5⟩
  go_simp
  with_reducible rfl
 rotate_left
 ·refine ps_ ?_
  rfl
 refine one_ (i := 5) (N := some 12) #[true, true, true, true, true, true, true, true, true, true, true, false, true, true, true, true, true, false, false, false] rfl rfl (one_of HT_.out (by kernel_rfl)) (by decide) (fun K hK => ?_)
 refine goesD_ Try.func173 (by kernel_rfl) rfl #[.complex .f32 a0_0.re a0_0.im, .complex .f32 a1_0.re a1_0.im] (by rfl) rfl rfl (by rfl) mp_ ?_
 with_reducible refine (impl_plus.calls a0_0 a1_0 t332 _ A4.out).mono ?_
 rintro e w' ⟨rfl, ⟨nd, rfl⟩⟩
 refine ⟨_, rfl, ?_⟩
 refine hK.out _ _ ⟨(blk_cell BK329.out 0).trans rfl, (blk_cell BK329.out 1).trans rfl, (blk_cell BK329.out 2).trans rfl, (blk_cell BK330.out 0).trans rfl, (blk_cell BK330.out 1).trans rfl, (blk_cell BK330.out 2).trans rfl⟩ (fun hHeld => ?_)
 clear hK K
 refine norm_ (a' := ?_) ?_ ?_
 rotate_left
 ·show Act.put _ (some 12) _ = _
  refine ps_ ?_
  rfl
 refine one_ (i := 11) (N := some 18) #[true, true, true, true, true, true, true, true, true, true, true, true, true, true, true, true, true, false, false, false] rfl rfl (one_of HT_.out (by kernel_rfl)) (by decide) (fun K hK => ?_)
 refine goesD_ Try.func173 (by kernel_rfl) rfl #[.complex .f32 a0_1.re a0_1.im, .complex .f32 a1_1.re a1_1.im] (by rfl) rfl rfl (by rfl) mp_ ?_
 with_reducible refine (impl_plus.calls a0_1 a1_1 t333 _ A5.out).mono ?_
 rintro e w' ⟨rfl, ⟨nd, rfl⟩⟩
 refine ⟨_, rfl, ?_⟩
 refine hK.out _ _ ⟨(blk_cell BK329.out 0).trans rfl, (blk_cell BK329.out 1).trans rfl, (blk_cell BK329.out 2).trans rfl, (blk_cell BK330.out 0).trans rfl, (blk_cell BK330.out 1).trans rfl, (blk_cell BK330.out 2).trans rfl⟩ (fun hHeld => ?_)
 clear hK K
 refine norm_ (a' := ?_) ?_ ?_
 rotate_left
 ·show Act.put _ (some 18) _ = _
  refine ps_ ?_
  rfl
 refine one_ (i := 17) (N := some 24) #[true, true, true, true, true, true, true, true, true, true, true, true, true, true, true, true, true, true, false, false] rfl rfl (one_of HT_.out (by kernel_rfl)) (by decide) (fun K hK => ?_)
 refine goesD_ Try.func173 (by kernel_rfl) rfl #[.complex .f32 a0_2.re a0_2.im, .complex .f32 a1_2.re a1_2.im] (by rfl) rfl rfl (by rfl) mp_ ?_
 with_reducible refine (impl_plus.calls a0_2 a1_2 t334 _ A6.out).mono ?_
 rintro e w' ⟨rfl, ⟨nd, rfl⟩⟩
 refine ⟨_, rfl, ?_⟩
 refine hK.out _ _ ⟨(blk_cell BK329.out 0).trans rfl, (blk_cell BK329.out 1).trans rfl, (blk_cell BK329.out 2).trans rfl, (blk_cell BK330.out 0).trans rfl, (blk_cell BK330.out 1).trans rfl, (blk_cell BK330.out 2).trans rfl⟩ (fun hHeld => ?_)
 clear hK K
 refine norm_ (a' := ?_) ?_ ?_
 rotate_left
 ·show Act.put _ (some 24) _ = _
  refine ps_ ?_
  rfl
 refine pure_ (i := 18) (N := some 25) (v := ?_) (a' := ?_) #[true, true, true, true, true, true, true, true, true, true, true, true, true, true, true, true, true, true, true, false] rfl rfl (any_of HT_.out (by kernel_rfl)) (fun _ _ _ h => h) (Or.inl ⟨by rfl, ?_⟩) ?_ ?_
 rotate_left
 ·intro w'
  go_simp
  with_reducible rfl
 rotate_left
 ·refine ps_ ?_
  rfl
 refine one_ (i := 19) (N := none) #[true, true, true, true, true, true, true, true, true, true, true, true, true, true, true, true, true, true, true, true] rfl rfl (one_of HT_.out (by kernel_rfl)) (by decide) (fun K hK => ?_)
 have hs11 : w10.cell? ⟨gb331, 0, none⟩ = some (.complex .f32 0 0) := (blk_cell BK331.out 0).trans rfl
 have hfs11 := blk_frozen BK331.out 0
 have hns11_0 := NB329_331.out
 have hns11_1 := NB330_331.out
 have hms11_0 := NB331_329.out
 have hms11_1 := NB331_330.out
 have hs12 : w10.cell? ⟨gb331, 1, none⟩ = some (.complex .f32 0 0) := (blk_cell BK331.out 1).trans rfl
 have hfs12 := blk_frozen BK331.out 1
 have hns12_0 := NB329_331.out
 have hns12_1 := NB330_331.out
 have hms12_0 := NB331_329.out
 have hms12_1 := NB331_330.out
 have hs13 : w10.cell? ⟨gb331, 2, none⟩ = some (.complex .f32 0 0) := (blk_cell BK331.out 2).trans rfl
 have hfs13 := blk_frozen BK331.out 2
 have hns13_0 := NB329_331.out
 have hns13_1 := NB330_331.out
 have hms13_0 := NB331_329.out
 have hms13_1 := NB331_330.out
 refine skip_ (w1 := ?_) (by rfl) rfl ?_ ?_
 rotate_left
 ·go_simp
  rfl
 refine hK.out _ _ ⟨((cell_far (p := ⟨gb331, _, none⟩) NB329_331.out _).trans (((cell_far (p := ⟨gb331, _, none⟩) NB329_331.out _).trans (((cell_far (p := ⟨gb331, _, none⟩) NB329_331.out _).trans (hHeld.1)))))), ((cell_far (p := ⟨gb331, _, none⟩) NB329_331.out _).trans (((cell_far (p := ⟨gb331, _, none⟩) NB329_331.out _).trans (((cell_far (p := ⟨gb331, _, none⟩) NB329_331.out _).trans (hHeld.2.1)))))), ((cell_far (p := ⟨gb331, _, none⟩) NB329_331.out _).trans (((cell_far (p := ⟨gb331, _, none⟩) NB329_331.out _).trans (((cell_far (p := ⟨gb331, _, none⟩) NB329_331.out _).trans (hHeld.2.2.1)))))), ((cell_far (p := ⟨gb331, _, none⟩) NB330_331.out _).trans (((cell_far (p := ⟨gb331, _, none⟩) NB330_331.out _).trans (((cell_far (p := ⟨gb331, _, none⟩) NB330_331.out _).trans (hHeld.2.2.2.1)))))), ((cell_far (p := ⟨gb331, _, none⟩) NB330_331.out _).trans (((cell_far (p := ⟨gb331, _, none⟩) NB330_331.out _).trans (((cell_far (p := ⟨gb331, _, none⟩) NB330_331.out _).trans (hHeld.2.2.2.2.1)))))), ((cell_far (p := ⟨gb331, _, none⟩) NB330_331.out _).trans (((cell_far (p := ⟨gb331, _, none⟩) NB330_331.out _).trans (((cell_far (p := ⟨gb331, _, none⟩) NB330_331.out _).trans (hHeld.2.2.2.2.2))))))⟩ (fun hHeld => ?_)
 clear hK K
 refine done_ (done_of HT_.out (by kernel_rfl)) ?_
 try go_wp2
 refine bodyPost_ret (results_cell_row rfl _ _ gb331 39 #[.complex .f32 t332.re t332.im, .complex .f32 t333.re t333.im, .complex .f32 t334.re t334.im] (0, 0) _ rfl (by refine bu ?_; refine blk_put (cs := #[.complex .f32 t332.re t332.im, .complex .f32 t333.re t333.im, .complex .f32 0 0]) ?_ 2 _ rfl; refine bu ?_; refine blk_put (cs := #[.complex .f32 t332.re t332.im, .complex .f32 0 0, .complex .f32 0 0]) ?_ 1 _ rfl; refine bu ?_; refine blk_put (cs := #[.complex .f32 0 0, .complex .f32 0 0, .complex .f32 0 0]) ?_ 0 _ rfl; refine bu ?_; exact BK331.out) Try.underlying39 rfl (by kernel_rfl)) rfl ?_
 exact ⟨re_, tb⟩

end Go.Proofs.Ytcgpomicgbmdlaa.PFnBanks
