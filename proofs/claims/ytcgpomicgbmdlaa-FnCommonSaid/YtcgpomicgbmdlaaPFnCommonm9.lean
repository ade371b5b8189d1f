-- Words and walks of the print, as far as this claim uses them (laid by wip/mkclaim.py of this session). Lean checks it.
import Derived.Test.YtcgpomicgbmdlaaFl
import Derived.Test.YtcgpomicgbmdlaaPFnCommonm0
import Derived.Test.YtcgpomicgbmdlaaPFnCommonm2
import Derived.Test.YtcgpomicgbmdlaaPFnCommonm3
import Derived.Test.YtcgpomicgbmdlaaPFnCommonm4
import Derived.Test.YtcgpomicgbmdlaaPFnCommonm5
import Derived.Test.YtcgpomicgbmdlaaPFnCommonm6
import Derived.Test.YtcgpomicgbmdlaaPFnCommonm7
import Derived.Test.YtcgpomicgbmdlaaPFnCommonm8
namespace Go.Proofs.Ytcgpomicgbmdlaa.PFnCommon
open Go.RowKit Go.Proofs.YtcgpomicgbmdlaaW.PrintWords Go.Proofs.YtcgpomicgbmdlaaW.PrintLast Go.Proofs.YtcgpomicgbmdlaaW.PrintMore
attribute [local go_sem] max2_int min2_int max_two min_two max_three min_three max_four min_four   -- for this text's walks alone
set_option linter.unusedVariables false
set_option linter.unusedSimpArgs false

def laws_FnCommon.T15 : Bool × List (List Nat × List Nat) := (true, [([], []), ([], []), ([0, 1], [0, 1]), ([2], [2]), ([], []), ([], []), ([4, 5], [4, 5]), ([6], [6]), ([3, 7], [3, 7]), ([8], [8]), ([9], [9]), ([9], [9]), ([10, 11, 9], [9, 10, 11]), ([12, 9], [9, 12]), ([9], [9]), ([9], [9]), ([14, 15, 9], [9, 14, 15]), ([16, 9], [9, 16]), ([13, 17, 9], [9, 13, 17]), ([9, 18], [9, 18])])
def laws_FnCommon.B15 : List Nat := [0, 0, 3, 7, 0, 0, 48, 112, 255, 511, 1023, 1023, 4095, 8191, 1023, 1023, 50175, 115711, 262143, 524287]
theorem laws_FnCommon.tab15 : rtab .any (opsOf Try.f6 15) = laws_FnCommon.T15 := by kernel_rfl
theorem laws_FnCommon.bits15 : waitsOk laws_FnCommon.T15.2 laws_FnCommon.B15 = true := by kernel_rfl
def laws_FnCommon.T17 : Bool × List (List Nat × List Nat) := (true, [([], []), ([0], [0]), ([], []), ([2], [2]), ([1, 3], [1, 3]), ([4], [4]), ([5], [5]), ([6, 5], [5, 6]), ([5], [5]), ([8, 5], [5, 8]), ([7, 9, 5], [5, 7, 9]), ([5, 10], [5, 10]), ([11, 5], [11]), ([12], [12]), ([12], [12]), ([14, 12], [12, 14]), ([13, 15, 12], [12, 13, 15]), ([16, 12], [12, 16]), ([12], [12]), ([12], [12]), ([19, 12], [12, 19]), ([18, 20, 12], [12, 18, 20]), ([21, 12], [12, 21]), ([17, 22, 12], [12, 17, 22]), ([12, 23], [12, 23])])
def laws_FnCommon.B17 : List Nat := [0, 1, 0, 4, 15, 31, 63, 127, 63, 319, 1023, 2047, 4095, 8191, 8191, 24575, 65535, 131071, 8191, 8191, 532479, 1843199, 3940351, 8388607, 16777215]
theorem laws_FnCommon.tab17 : rtab .any (opsOf Try.f6 17) = laws_FnCommon.T17 := by kernel_rfl
theorem laws_FnCommon.bits17 : waitsOk laws_FnCommon.T17.2 laws_FnCommon.B17 = true := by kernel_rfl
def laws_FnCommon.T25 : Bool × List (List Nat × List Nat) := (true, [([], []), ([0], [0]), ([1], [1]), ([1, 2], [1, 2]), ([3, 1], [3]), ([4], [4]), ([4, 5], [4, 5]), ([6, 4], [6]), ([7], [7]), ([7, 8], [7, 8]), ([9, 7], [9]), ([10], [10]), ([11, 10], [10, 11]), ([10], [10]), ([13, 10], [10, 13]), ([12, 14, 10, 10], [10, 12, 14]), ([15, 10], [10, 15]), ([10, 16], [10, 16]), ([17, 15], [17]), ([18], [18]), ([19, 18], [18, 19]), ([18], [18]), ([21, 18], [18, 21]), ([20, 22, 18, 18], [18, 20, 22]), ([23, 18], [18, 23]), ([18, 24], [18, 24]), ([25, 23], [25]), ([26], [26]), ([27, 26], [26, 27]), ([26], [26]), ([29, 26], [26, 29]), ([28, 30, 26, 26], [26, 28, 30]), ([31, 26], [26, 31]), ([26, 32], [26, 32]), ([33, 31], [33]), ([34], [34]), ([34], [34]), ([36, 34, 34], [34, 36]), ([35, 37, 37, 34], [34, 35, 37]), ([34, 38], [34, 38]), ([39, 38], [39]), ([40], [40]), ([40], [40]), ([41, 42, 40, 40], [40, 41, 42]), ([40, 43], [40, 43]), ([44, 43, 0, 1, 2, 3, 4, 5, 6, 7, 8, 9, 10, 11, 12, 13, 14, 15, 16, 17, 18, 19, 20, 21, 22, 23, 24, 25, 26, 27, 28, 29, 30, 31, 32, 33, 34, 35, 36, 37, 38, 39, 40, 41, 42, 43, 44], [44])])
def laws_FnCommon.B25 : List Nat := [0, 1, 3, 7, 15, 31, 63, 127, 255, 511, 1023, 2047, 4095, 2047, 10239, 32767, 65535, 131071, 262143, 524287, 1048575, 524287, 2621439, 8388607, 16777215, 33554431, 67108863, 134217727, 268435455, 134217727, 671088639, 2147483647, 4294967295, 8589934591, 17179869183, 34359738367, 34359738367, 103079215103, 274877906943, 549755813887, 1099511627775, 2199023255551, 2199023255551, 8796093022207, 17592186044415, 35184372088831]
theorem laws_FnCommon.tab25 : rtab .any (opsOf Try.f6 25) = laws_FnCommon.T25 := by kernel_rfl
theorem laws_FnCommon.bits25 : waitsOk laws_FnCommon.T25.2 laws_FnCommon.B25 = true := by kernel_rfl
set_option maxHeartbeats 8000000 in
set_option maxRecDepth 100000 in
theorem laws_FnCommon.calls (k : Nat) (A0 : Option Addr) (c0 : Nat) (l0 : List Int) (A1 : Option Addr) (c1 : Nat) (l1 : List Int) (r : Bool) (w : World) (hr0 : Kd.C (Kd.int .u8) w A0 l0.length l0) (hc0 : l0.length ≤ c0) (hr1 : Kd.C (Kd.int .u8) w A1 l1.length l1) (hc1 : l1.length ≤ c1) (h : laws_FnCommon.f k l0 l1 = some r) (hlaw : r = true) :
  Calls Try.prog 6 #[.slice A0 l0.length c0, .slice A1 l1.length c1] w fun e w' => e = .returned (.bool r) ∧ Below w.heap.size w w' := by
 have hu42 := Try.underlying42
 have hu39 := Try.underlying39
 have hu80 := Try.underlying80
 have hfd80_1 : ∀ (x0_ x1_ x2_ : Value) (W : World), (Instr.field 80 (.agg #[x0_, x1_, x2_]) 1).run Try.prog W = .ok (x1_) W := by as_aux_lemma => (intros; rfl)
 have HR0 := Aside0.mk hr0
 have HC0 := Aside0.mk hc0
 clear hr0 hc0
 have HR1 := Aside0.mk hr1
 have HC1 := Aside0.mk hc1
 clear hr1 hc1
 have HB := Aside0.mk (Below.refl w.heap.size w)
 have H : ((laws_r8Long.f l0 l1).bind fun t468 => (if t468 = true then (some true) else ((spec_R8Feeder.f k l0).bind fun bt469 => ((laws_r8At.f l1 0 (bt469.2.2.2.length : Int)).bind fun t476 => ((laws_r8At.f l1 1 (bt469.2.2.2.length : Int)).bind fun t477 => ((impl_CommonPath.f k bt469.1 bt469.2.1 bt469.2.2.1 bt469.2.2.2 t476 t477).bind fun bt478 => ((impl_PathTo.f k bt469.1 bt469.2.1 bt469.2.2.1 bt469.2.2.2 t476).bind fun bt482 => ((impl_PathTo.f k bt469.1 bt469.2.1 bt469.2.2.1 bt469.2.2.2 t477).bind fun bt486 => (if bt478.2 = true then (if bt482.2 = true then (if bt486.2 = true then (if (bt478.1.length : Int) = 0 then (laws_FnCommon.j0 k t476 bt478.1 bt482.1 bt486.1 true bt469.1 bt469.2.1 bt469.2.2.1 bt469.2.2.2) else (if (bt478.1.length : Int) > (bt482.1.length : Int) then (laws_FnCommon.j0 k t476 bt478.1 bt482.1 bt486.1 true bt469.1 bt469.2.1 bt469.2.2.1 bt469.2.2.2) else (laws_FnCommon.j0 k t476 bt478.1 bt482.1 bt486.1 (decide ((bt478.1.length : Int) > (bt486.1.length : Int))) bt469.1 bt469.2.1 bt469.2.2.1 bt469.2.2.2))) else (laws_FnCommon.j0 k t476 bt478.1 bt482.1 bt486.1 true bt469.1 bt469.2.1 bt469.2.2.1 bt469.2.2.2)) else (laws_FnCommon.j0 k t476 bt478.1 bt482.1 bt486.1 true bt469.1 bt469.2.1 bt469.2.2.1 bt469.2.2.2)) else (laws_FnCommon.j0 k t476 bt478.1 bt482.1 bt486.1 true bt469.1 bt469.2.1 bt469.2.2.1 bt469.2.2.2)))))))))) = some r := h
 clear h
 replace H := Option.bind_eq_some_iff.mp H
 obtain ⟨t468, A30, H⟩ := H
 try dsimp only at H
 have A3 := Aside0.mk A30
 clear A30
 by_cases c4 : t468 = true
 ·subst c4
  rw [if_pos rfl] at H; try dsimp only at H
  as_aux_lemma =>
   obtain rfl := Option.some.inj H
   go_enter Try.func6, Try.ntmps6
   go_wp2_with (first | ((with_reducible refine gate_callee (f := 38) rfl ?_); refine gx_ (some 30) Try.func38 #[.slice A0 l0.length c0, .slice A1 l1.length c1] ?_; (with_reducible refine (laws_r8Long.calls _ _ l0 _ _ l1 true _ ?side1 ?side2 ?side3 ?side4 A3.out).mono ?_); (case side1 => exact cu HR0.out); (case side2 => exact HC0.out); (case side3 => exact cu HR1.out); (case side4 => exact HC1.out); rintro e w' ⟨rfl, ⟨nd, rfl⟩⟩; refine ⟨_, rfl, ?_⟩))
   go_ret
   exact ⟨re_, tb⟩
 ·replace c4 := Bool.eq_false_iff.mpr c4
  subst c4
  have H1 : ((spec_R8Feeder.f k l0).bind fun bt469 => ((laws_r8At.f l1 0 (bt469.2.2.2.length : Int)).bind fun t476 => ((laws_r8At.f l1 1 (bt469.2.2.2.length : Int)).bind fun t477 => ((impl_CommonPath.f k bt469.1 bt469.2.1 bt469.2.2.1 bt469.2.2.2 t476 t477).bind fun bt478 => ((impl_PathTo.f k bt469.1 bt469.2.1 bt469.2.2.1 bt469.2.2.2 t476).bind fun bt482 => ((impl_PathTo.f k bt469.1 bt469.2.1 bt469.2.2.1 bt469.2.2.2 t477).bind fun bt486 => (if bt478.2 = true then (if bt482.2 = true then (if bt486.2 = true then (if (bt478.1.length : Int) = 0 then (laws_FnCommon.j0 k t476 bt478.1 bt482.1 bt486.1 true bt469.1 bt469.2.1 bt469.2.2.1 bt469.2.2.2) else (if (bt478.1.length : Int) > (bt482.1.length : Int) then (laws_FnCommon.j0 k t476 bt478.1 bt482.1 bt486.1 true bt469.1 bt469.2.1 bt469.2.2.1 bt469.2.2.2) else (laws_FnCommon.j0 k t476 bt478.1 bt482.1 bt486.1 (decide ((bt478.1.length : Int) > (bt486.1.length : Int))) bt469.1 bt469.2.1 bt469.2.2.1 bt469.2.2.2))) else (laws_FnCommon.j0 k t476 bt478.1 bt482.1 bt486.1 true bt469.1 bt469.2.1 bt469.2.2.1 bt469.2.2.2)) else (laws_FnCommon.j0 k t476 bt478.1 bt482.1 bt486.1 true bt469.1 bt469.2.1 bt469.2.2.1 bt469.2.2.2)) else (laws_FnCommon.j0 k t476 bt478.1 bt482.1 bt486.1 true bt469.1 bt469.2.1 bt469.2.2.1 bt469.2.2.2)))))))) = some r := by rw [if_neg (show ¬ (false = true) by decide)] at H; exact H
  clear H
  have H := H1
  clear H1
  replace H := Option.bind_eq_some_iff.mp H
  obtain ⟨⟨t469, t470, t471, t472⟩, A50, H⟩ := H
  try dsimp only at H
  have A5 := Aside0.mk A50
  clear A50
  replace H := Option.bind_eq_some_iff.mp H
  obtain ⟨t476, A60, H⟩ := H
  try dsimp only at H
  have A6 := Aside0.mk A60
  clear A60
  replace H := Option.bind_eq_some_iff.mp H
  obtain ⟨t477, A70, H⟩ := H
  try dsimp only at H
  have A7 := Aside0.mk A70
  clear A70
  replace H := Option.bind_eq_some_iff.mp H
  obtain ⟨⟨t478, t481⟩, A80, H⟩ := H
  try dsimp only at H
  have A8 := Aside0.mk A80
  clear A80
  replace H := Option.bind_eq_some_iff.mp H
  obtain ⟨⟨t482, t485⟩, A90, H⟩ := H
  try dsimp only at H
  have A9 := Aside0.mk A90
  clear A90
  replace H := Option.bind_eq_some_iff.mp H
  obtain ⟨⟨t486, t489⟩, A100, H⟩ := H
  try dsimp only at H
  have A10 := Aside0.mk A100
  clear A100
  have HC11 := Aside0.mk H
  clear H
  go_enter Try.func6, Try.ntmps6
  go_upto_region 10 with (first | ((with_reducible refine gate_callee (f := 38) rfl ?_); refine gx_ (some 30) Try.func38 #[.slice A0 l0.length c0, .slice A1 l1.length c1] ?_; (with_reducible refine (laws_r8Long.calls _ _ l0 _ _ l1 false _ ?side1 ?side2 ?side3 ?side4 A3.out).mono ?_); (case side1 => exact cu HR0.out); (case side2 => exact HC0.out); (case side3 => exact cu HR1.out); (case side4 => exact HC1.out); rintro e w' ⟨rfl, ⟨nd, rfl⟩⟩; refine ⟨_, rfl, ?_⟩) | ((with_reducible refine gate_callee (f := 39) rfl ?_); refine gx_ (some 32) Try.func39 #[.slice A0 l0.length c0] ?_; (with_reducible refine (spec_R8Feeder.calls k _ _ l0 t469 t470 t471 t472 _ ?side1 ?side2 A5.out).mono ?_); (case side1 => exact cu HR0.out); (case side2 => exact HC0.out); rintro e w12 ⟨v473, rfl, ho0, hb⟩; refine ⟨_, rfl, ?_⟩; have n0_ := Aside0.mk (Kd.R_lower ho0 (below_size tb)); have n1_ := Aside0.mk (below_step tb hb); clear HB; have HO474 := n0_; have HB := n1_; clear n0_ n1_; (try clear hb); (try clear hb2); (try clear hk); (try clear hi); (try clear ho0)) | ((with_reducible refine gate_dst (N := 5) rfl ?_); (try (refine gate_guard (by rfl) ?_; dsimp only)); refine box_event ?hg (N := 5) ?hd (cs := #[.complex .f32 0 0, .complex .f32 0 0, .complex .f32 0 0, .slice none 0 0]) (t := 42) ?hr ?_; (case hd => rfl); (case hg => rfl); (case hr => first | (go_simp; done) | (go_simp; rfl)); intro gb475 hg w13 hbox hb; have n0_ := Aside0.mk (Kd.R_below (ru HO474.out) hb); have n1_ := Aside0.mk (below_step tb hb); have n2_ := Aside0.mk (hbox); have n3_ := Aside0.mk ((by rw [hg]; exact (below_size tb) : w.heap.size ≤ gb475)); have n4_ := Aside0.mk ((by rw [hg]; exact (below_size tb) : w.heap.size ≤ gb475)); clear HO474; clear HB; have HO474 := n0_; have HB := n1_; have BK475 := n2_; have GW475 := n3_; have GE475 := n4_; clear n0_ n1_ n2_ n3_ n4_; clear hb hbox hg; have hcz14_0 : w13.cell? ⟨gb475, 0, none⟩ = some (.complex .f32 0 0) := (blk_cell BK475.out 0).trans rfl; have hcz14_1 : w13.cell? ⟨gb475, 1, none⟩ = some (.complex .f32 0 0) := (blk_cell BK475.out 1).trans rfl; have hcz14_2 : w13.cell? ⟨gb475, 2, none⟩ = some (.complex .f32 0 0) := (blk_cell BK475.out 2).trans rfl; have hcz14_3 : w13.cell? ⟨gb475, 3, none⟩ = some (.slice none 0 0) := (blk_cell BK475.out 3).trans rfl; have hfz14_0 := blk_frozen BK475.out 0; have hfz14_1 := blk_frozen BK475.out 1; have hfz14_2 := blk_frozen BK475.out 2; have hfz14_3 := blk_frozen BK475.out 3; obtain ⟨Ao15, co15, eo15⟩ := Kd.R_slice HO474.out; subst eo15) | ((with_reducible refine gate_callee (f := 40) rfl ?_); refine gx_ (some 38) Try.func40 #[.slice A1 l1.length c1, .int .i64 0, .int .i64 (t472.length : Int)] ?_; (with_reducible refine (laws_r8At.calls _ _ l1 0 (t472.length : Int) t476 _ ?side1 ?side2 A6.out).mono ?_); (case side1 => exact Kd.C_below HR1.out tb); (case side2 => exact HC1.out); rintro e w' ⟨rfl, ⟨nd, rfl⟩⟩; refine ⟨_, rfl, ?_⟩) | ((with_reducible refine gate_callee (f := 40) rfl ?_); refine gx_ (some 41) Try.func40 #[.slice A1 l1.length c1, .int .i64 1, .int .i64 (t472.length : Int)] ?_; (with_reducible refine (laws_r8At.calls _ _ l1 1 (t472.length : Int) t477 _ ?side1 ?side2 A7.out).mono ?_); (case side1 => exact Kd.C_below HR1.out tb); (case side2 => exact HC1.out); rintro e w' ⟨rfl, ⟨nd, rfl⟩⟩; refine ⟨_, rfl, ?_⟩) | ((with_reducible refine gate_callee (f := 41) rfl ?_); refine gx_ (some 46) Try.func41 #[.agg #[.complex .f32 t469.re t469.im, .complex .f32 t470.re t470.im, .complex .f32 t471.re t471.im, .slice Ao15 t472.length co15], .int .i64 t476, .int .i64 t477] ?_; (with_reducible refine (impl_CommonPath.calls k t469 t470 t471 _ _ t472 t476 t477 t478 t481 _ ?side1 ?side2 A8.out).mono ?_); (case side1 => refine (Kd.R_reads' (e := 66) (base := w.heap.size) (ok := fun k_ => True) (n := t472.length) (c := co15) ?_).2.2; exact (by refine ru ?_; exact (Kd.R_mono (Kd.R_far (p := ⟨gb475, 3, none⟩) (Kd.R_far (p := ⟨gb475, 2, none⟩) (Kd.R_far (p := ⟨gb475, 1, none⟩) (Kd.R_far (p := ⟨gb475, 0, none⟩) (Kd.R_types HO474.out BK475.out (by decide)) (fun _ hk => hk.2) (.complex .f32 t469.re t469.im)) (fun _ hk => hk.2) (.complex .f32 t470.re t470.im)) (fun _ hk => hk.2) (.complex .f32 t471.re t471.im)) (fun _ hk => hk.2) (.slice Ao15 t472.length co15)) (fun _ h_ => h_.1)))); (case side2 => exact (Kd.R_reads' HO474.out).2.1); rintro e w16 ⟨v479, rfl, ho0, hb⟩; refine ⟨_, rfl, ?_⟩; have n0_ := Aside0.mk (Kd.R_below (by refine ru ?_; exact (Kd.R_mono (Kd.R_far (p := ⟨gb475, 3, none⟩) (Kd.R_far (p := ⟨gb475, 2, none⟩) (Kd.R_far (p := ⟨gb475, 1, none⟩) (Kd.R_far (p := ⟨gb475, 0, none⟩) (Kd.R_types HO474.out BK475.out (by decide)) (fun _ hk => hk.2) (.complex .f32 t469.re t469.im)) (fun _ hk => hk.2) (.complex .f32 t470.re t470.im)) (fun _ hk => hk.2) (.complex .f32 t471.re t471.im)) (fun _ hk => hk.2) (.slice Ao15 t472.length co15)) (fun _ h_ => h_.1))) hb); have n1_ := Aside0.mk (Kd.R_lower ho0 (below_size tb)); have n2_ := Aside0.mk (blk_below (g := gb475) (o := .cells #[.complex .f32 t469.re t469.im, .complex .f32 t470.re t470.im, .complex .f32 t471.re t471.im, .slice Ao15 t472.length co15] 42 (0, 0)) (by refine bu ?_; refine blk_put (cs := #[.complex .f32 t469.re t469.im, .complex .f32 t470.re t470.im, .complex .f32 t471.re t471.im, .slice none 0 0]) ?_ 3 _ rfl; refine bu ?_; refine blk_put (cs := #[.complex .f32 t469.re t469.im, .complex .f32 t470.re t470.im, .complex .f32 0 0, .slice none 0 0]) ?_ 2 _ rfl; refine bu ?_; refine blk_put (cs := #[.complex .f32 t469.re t469.im, .complex .f32 0 0, .complex .f32 0 0, .slice none 0 0]) ?_ 1 _ rfl; refine bu ?_; refine blk_put (cs := #[.complex .f32 0 0, .complex .f32 0 0, .complex .f32 0 0, .slice none 0 0]) ?_ 0 _ rfl; refine bu ?_; exact BK475.out) hb); have n3_ := Aside0.mk (below_step tb hb); clear HO474; clear BK475; clear HB; have HO474 := n0_; have HO480 := n1_; have BK475 := n2_; have HB := n3_; clear n0_ n1_ n2_ n3_; (try clear hb); (try clear hb2); (try clear hk); (try clear hi); (try clear ho0); have hcz17_0 : w16.cell? ⟨gb475, 0, none⟩ = some (.complex .f32 t469.re t469.im) := (blk_cell BK475.out 0).trans rfl; have hcz17_1 : w16.cell? ⟨gb475, 1, none⟩ = some (.complex .f32 t470.re t470.im) := (blk_cell BK475.out 1).trans rfl; have hcz17_2 : w16.cell? ⟨gb475, 2, none⟩ = some (.complex .f32 t471.re t471.im) := (blk_cell BK475.out 2).trans rfl; have hcz17_3 : w16.cell? ⟨gb475, 3, none⟩ = some (.slice Ao15 t472.length co15) := (blk_cell BK475.out 3).trans rfl; have hfz17_0 := blk_frozen BK475.out 0; have hfz17_1 := blk_frozen BK475.out 1; have hfz17_2 := blk_frozen BK475.out 2; have hfz17_3 := blk_frozen BK475.out 3) | ((with_reducible refine gate_callee (f := 42) rfl ?_); refine gx_ (some 52) Try.func42 #[.agg #[.complex .f32 t469.re t469.im, .complex .f32 t470.re t470.im, .complex .f32 t471.re t471.im, .slice Ao15 t472.length co15], .int .i64 t476] ?_; (with_reducible refine (impl_PathTo.calls k t469 t470 t471 _ _ t472 t476 t482 t485 _ ?side1 ?side2 A9.out).mono ?_); (case side1 => exact cu ((Kd.R_reads' HO474.out).2.2)); (case side2 => exact (Kd.R_reads' HO474.out).2.1); rintro e w18 ⟨v483, rfl, ho0, hb⟩; refine ⟨_, rfl, ?_⟩; have n0_ := Aside0.mk (Kd.R_below (ru HO474.out) hb); have n1_ := Aside0.mk (Kd.R_elder' (ru HO480.out) (Kd.R_base ho0) hb); have n2_ := Aside0.mk (Kd.R_lower (Kd.R_new' ho0 (Kd.R_lt (ru HO480.out))) (below_size tb)); have n3_ := Aside0.mk (blk_below (g := gb475) (o := .cells #[.complex .f32 t469.re t469.im, .complex .f32 t470.re t470.im, .complex .f32 t471.re t471.im, .slice Ao15 t472.length co15] 42 (0, 0)) (bu BK475.out) hb); have n4_ := Aside0.mk (below_step tb hb); clear HO474; clear HO480; clear BK475; clear HB; have HO474 := n0_; have HO480 := n1_; have HO484 := n2_; have BK475 := n3_; have HB := n4_; clear n0_ n1_ n2_ n3_ n4_; (try clear hb); (try clear hb2); (try clear hk); (try clear hi); (try clear ho0); have hcz19_0 : w18.cell? ⟨gb475, 0, none⟩ = some (.complex .f32 t469.re t469.im) := (blk_cell BK475.out 0).trans rfl; have hcz19_1 : w18.cell? ⟨gb475, 1, none⟩ = some (.complex .f32 t470.re t470.im) := (blk_cell BK475.out 1).trans rfl; have hcz19_2 : w18.cell? ⟨gb475, 2, none⟩ = some (.complex .f32 t471.re t471.im) := (blk_cell BK475.out 2).trans rfl; have hcz19_3 : w18.cell? ⟨gb475, 3, none⟩ = some (.slice Ao15 t472.length co15) := (blk_cell BK475.out 3).trans rfl; have hfz19_0 := blk_frozen BK475.out 0; have hfz19_1 := blk_frozen BK475.out 1; have hfz19_2 := blk_frozen BK475.out 2; have hfz19_3 := blk_frozen BK475.out 3) | ((with_reducible refine gate_callee (f := 42) rfl ?_); refine gx_ (some 58) Try.func42 #[.agg #[.complex .f32 t469.re t469.im, .complex .f32 t470.re t470.im, .complex .f32 t471.re t471.im, .slice Ao15 t472.length co15], .int .i64 t477] ?_; (with_reducible refine (impl_PathTo.calls k t469 t470 t471 _ _ t472 t477 t486 t489 _ ?side1 ?side2 A10.out).mono ?_); (case side1 => exact cu ((Kd.R_reads' HO474.out).2.2)); (case side2 => exact (Kd.R_reads' HO474.out).2.1); rintro e w20 ⟨v487, rfl, ho0, hb⟩; refine ⟨_, rfl, ?_⟩; have n0_ := Aside0.mk (Kd.R_below (ru HO474.out) hb); have n1_ := Aside0.mk (Kd.R_elder' (ru HO480.out) (Kd.R_base ho0) hb); have n2_ := Aside0.mk (Kd.R_elder' (ru HO484.out) (Kd.R_base ho0) hb); have n3_ := Aside0.mk (Kd.R_lower (Kd.R_new' (Kd.R_new' ho0 (Kd.R_lt (ru HO480.out))) (Kd.R_lt (ru HO484.out))) (below_size tb)); have n4_ := Aside0.mk (blk_below (g := gb475) (o := .cells #[.complex .f32 t469.re t469.im, .complex .f32 t470.re t470.im, .complex .f32 t471.re t471.im, .slice Ao15 t472.length co15] 42 (0, 0)) (bu BK475.out) hb); have n5_ := Aside0.mk (below_step tb hb); clear HO474; clear HO480; clear HO484; clear BK475; clear HB; have HO474 := n0_; have HO480 := n1_; have HO484 := n2_; have HO488 := n3_; have BK475 := n4_; have HB := n5_; clear n0_ n1_ n2_ n3_ n4_ n5_; (try clear hb); (try clear hb2); (try clear hk); (try clear hi); (try clear ho0)))
  try refine pt_ ?_
  go_cut [89] (fun v89 wc => ∃ (kq : Nat) (x89_10 : Bool), v89 = .bool x89_10 ∧ Aside0 (laws_FnCommon.j0 kq t476 t478 t482 t486 x89_10 t469 t470 t471 t472 = some r) ∧ Aside0 (kq ≤ k) ∧ Aside0 (Kd.R (Kd.int .i64) 2 wc w.heap.size (fun k_ => some k_ ≠ (v483 : Value).ownBlock ∧ some k_ ≠ (v487 : Value).ownBlock) v479 t478) ∧ Aside0 (Kd.R (Kd.int .i64) 2 wc w.heap.size (fun k_ => some k_ ≠ (v479 : Value).ownBlock ∧ some k_ ≠ (v487 : Value).ownBlock) v483 t482) ∧ Aside0 (Kd.R (Kd.int .i64) 2 wc w.heap.size (fun k_ => some k_ ≠ (v479 : Value).ownBlock ∧ some k_ ≠ (v483 : Value).ownBlock) v487 t486) ∧ Aside0 (Kd.R k66 66 wc w.heap.size (fun _ => True) (.slice Ao15 t472.length co15) t472) ∧ Aside0 (wc.heap[gb475]? = some (.cells #[.complex .f32 t469.re t469.im, .complex .f32 t470.re t470.im, .complex .f32 t471.re t471.im, (.slice Ao15 t472.length co15)] 42 (0, 0))) ∧ Aside0 (Below w.heap.size w wc))
  case first =>
   have H := HC11.out
   clear HC11
   by_cases c21 : t481 = true
   ·subst c21
    rw [if_pos rfl] at H; try dsimp only at H
    by_cases c22 : t485 = true
    ·subst c22
     rw [if_pos rfl] at H; try dsimp only at H
     by_cases c23 : t489 = true
     ·subst c23
      rw [if_pos rfl] at H; try dsimp only at H
      by_cases c24 : (t478.length : Int) = 0
      ·rw [if_pos c24] at H
       have c24b0 : ((t478.length : Int) == 0) = true := beq_iff_eq.mpr c24
       have c24b1 : ((t478.length : Int) != 0) = false := bne_eq_false_iff_eq.mpr c24
       clear c24
       (first | rw [c24b0] | (simp only [i64_w, i32_w]; rw [c24b0]) | skip)
       as_aux_lemma =>
        have H' := Aside0.mk H
        clear H
        obtain ⟨Ao25, co25, eo25⟩ := Kd.R_slice HO480.out
        subst eo25
        go_wp2
        go_meet
        case rel => exact ⟨_, (true), rs_, H', ⟨by exact om_⟩, ⟨by refine ru ?_; exact Kd.R_mono HO480.out (fun _ hk => ⟨hk.1.2, hk.2⟩)⟩, ⟨by refine ru ?_; exact Kd.R_mono HO484.out (fun _ hk => ⟨hk.1.2, hk.2⟩)⟩, ⟨by refine ru ?_; exact Kd.R_mono HO488.out (fun _ hk => ⟨hk.1.2, hk.2⟩)⟩, ⟨by refine ru ?_; exact HO474.out⟩, ⟨by refine bu ?_; exact BK475.out⟩, ⟨tb⟩⟩
      ·rw [if_neg c24] at H
       have c24b0 : ((t478.length : Int) == 0) = false := beq_eq_false_iff_ne.mpr c24
       have c24b1 : ((t478.length : Int) != 0) = true := bne_iff_ne.mpr c24
       have c24b2 : ¬ (t478 = []) := fun h_ => c24 (by rw [h_]; rfl)
       (first | rw [c24b0] | (simp only [i64_w, i32_w]; rw [c24b0]) | skip)
       by_cases c26 : (t478.length : Int) > (t482.length : Int)
       ·rw [if_pos c26] at H
        have c26b0 : decide ((t482.length : Int) < (t478.length : Int)) = true := decide_eq_true c26
        have c26b1 : decide (t482.length < t478.length) = true := decide_eq_true (Int.ofNat_lt.mp c26)
        clear c26
        as_aux_lemma =>
         have H' := Aside0.mk H
         clear H
         obtain ⟨Ao27, co27, eo27⟩ := Kd.R_slice HO480.out
         subst eo27
         obtain ⟨Ao28, co28, eo28⟩ := Kd.R_slice HO484.out
         subst eo28
         go_wp2
         go_meet
         case rel => exact ⟨_, (true), rs_, H', ⟨by exact om_⟩, ⟨by refine ru ?_; exact Kd.R_mono HO480.out (fun _ hk => ⟨hk.1.2, hk.2⟩)⟩, ⟨by refine ru ?_; exact Kd.R_mono HO484.out (fun _ hk => ⟨hk.1.2, hk.2⟩)⟩, ⟨by refine ru ?_; exact Kd.R_mono HO488.out (fun _ hk => ⟨hk.1.2, hk.2⟩)⟩, ⟨by refine ru ?_; exact HO474.out⟩, ⟨by refine bu ?_; exact BK475.out⟩, ⟨tb⟩⟩
       ·rw [if_neg c26] at H
        have c26b0 : decide ((t482.length : Int) < (t478.length : Int)) = false := decide_eq_false c26
        have c26b1 : decide (t482.length < t478.length) = false := decide_eq_false (fun h => c26 (Int.ofNat_lt.mpr h))
        clear c26
        as_aux_lemma =>
         have H' := Aside0.mk H
         clear H
         obtain ⟨Ao29, co29, eo29⟩ := Kd.R_slice HO480.out
         subst eo29
         obtain ⟨Ao30, co30, eo30⟩ := Kd.R_slice HO484.out
         subst eo30
         obtain ⟨Ao31, co31, eo31⟩ := Kd.R_slice HO488.out
         subst eo31
         go_wp2
         go_meet
         case rel => exact ⟨_, (decide ((t478.length : Int) > (t486.length : Int))), rs_, H', ⟨by exact om_⟩, ⟨by refine ru ?_; exact Kd.R_mono HO480.out (fun _ hk => ⟨hk.1.2, hk.2⟩)⟩, ⟨by refine ru ?_; exact Kd.R_mono HO484.out (fun _ hk => ⟨hk.1.2, hk.2⟩)⟩, ⟨by refine ru ?_; exact Kd.R_mono HO488.out (fun _ hk => ⟨hk.1.2, hk.2⟩)⟩, ⟨by refine ru ?_; exact HO474.out⟩, ⟨by refine bu ?_; exact BK475.out⟩, ⟨tb⟩⟩
     ·replace c23 := Bool.eq_false_iff.mpr c23
      subst c23
      have H1 : (laws_FnCommon.j0 k t476 t478 t482 t486 true t469 t470 t471 t472) = some r := by rw [if_neg (show ¬ (false = true) by decide)] at H; exact H
      clear H
      have H := H1
      clear H1
      as_aux_lemma =>
       have H' := Aside0.mk H
       clear H
       go_wp2
       go_meet
       case rel => exact ⟨_, (true), rs_, H', ⟨by exact om_⟩, ⟨by refine ru ?_; exact Kd.R_mono HO480.out (fun _ hk => ⟨hk.1.2, hk.2⟩)⟩, ⟨by refine ru ?_; exact Kd.R_mono HO484.out (fun _ hk => ⟨hk.1.2, hk.2⟩)⟩, ⟨by refine ru ?_; exact Kd.R_mono HO488.out (fun _ hk => ⟨hk.1.2, hk.2⟩)⟩, ⟨by refine ru ?_; exact HO474.out⟩, ⟨by refine bu ?_; exact BK475.out⟩, ⟨tb⟩⟩
    ·replace c22 := Bool.eq_false_iff.mpr c22
     subst c22
     have H1 : (laws_FnCommon.j0 k t476 t478 t482 t486 true t469 t470 t471 t472) = some r := by rw [if_neg (show ¬ (false = true) by decide)] at H; exact H
     clear H
     have H := H1
     clear H1
     as_aux_lemma =>
      have H' := Aside0.mk H
      clear H
      go_wp2
      go_meet
      case rel => exact ⟨_, (true), rs_, H', ⟨by exact om_⟩, ⟨by refine ru ?_; exact Kd.R_mono HO480.out (fun _ hk => ⟨hk.1.2, hk.2⟩)⟩, ⟨by refine ru ?_; exact Kd.R_mono HO484.out (fun _ hk => ⟨hk.1.2, hk.2⟩)⟩, ⟨by refine ru ?_; exact Kd.R_mono HO488.out (fun _ hk => ⟨hk.1.2, hk.2⟩)⟩, ⟨by refine ru ?_; exact HO474.out⟩, ⟨by refine bu ?_; exact BK475.out⟩, ⟨tb⟩⟩
   ·replace c21 := Bool.eq_false_iff.mpr c21
    subst c21
    have H1 : (laws_FnCommon.j0 k t476 t478 t482 t486 true t469 t470 t471 t472) = some r := by rw [if_neg (show ¬ (false = true) by decide)] at H; exact H
    clear H
    have H := H1
    clear H1
    as_aux_lemma =>
     have H' := Aside0.mk H
     clear H
     go_wp2
     go_meet
     case rel => exact ⟨_, (true), rs_, H', ⟨by exact om_⟩, ⟨by refine ru ?_; exact Kd.R_mono HO480.out (fun _ hk => ⟨hk.1.2, hk.2⟩)⟩, ⟨by refine ru ?_; exact Kd.R_mono HO484.out (fun _ hk => ⟨hk.1.2, hk.2⟩)⟩, ⟨by refine ru ?_; exact Kd.R_mono HO488.out (fun _ hk => ⟨hk.1.2, hk.2⟩)⟩, ⟨by refine ru ?_; exact HO474.out⟩, ⟨by refine bu ?_; exact BK475.out⟩, ⟨tb⟩⟩
  case rest =>
   clear HC11
   try clear c1
   try clear c2
   try clear p2
   try clear c3
   try clear c4
   try clear c6
   try clear c21
   try clear c22
   try clear c23
   try clear c24
   try clear c24b0
   try clear c24b1
   try clear c24b2
   try clear c26
   try clear c26b0
   try clear c26b1
   try clear hcz14_0
   try clear hcz14_1
   try clear hcz14_2
   try clear hcz14_3
   try clear hcz17_0
   try clear hcz17_1
   try clear hcz17_2
   try clear hcz17_3
   try clear hcz19_0
   try clear hcz19_1
   try clear hcz19_2
   try clear hcz19_3
   try clear hfz14_0
   try clear hfz14_1
   try clear hfz14_2
   try clear hfz14_3
   try clear hfz17_0
   try clear hfz17_1
   try clear hfz17_2
   try clear hfz17_3
   try clear hfz19_0
   try clear hfz19_1
   try clear hfz19_2
   try clear hfz19_3
   obtain ⟨kq, x89_10, rfl, HA, HJ10, HO_9, HO_11, HO_13, HO_476003, BK475, HB⟩ := hcut
   cases kq with
   | zero => exact absurd HA.out (by simp [laws_FnCommon.j0])
   | succ kj10 =>
    have H := HA.out
    clear HA
    simp only [laws_FnCommon.j0] at H
    by_cases c32 : x89_10 = true
    ·subst c32
     rw [if_pos rfl] at H; try dsimp only at H
     exact absurd (H.trans (congrArg some hlaw)) (by decide)
    ·replace c32 := Bool.eq_false_iff.mpr c32
     subst c32
     have H1 : (laws_FnCommon.l0 kj10 t476 t478 t482 t486 0 t469 t470 t471 t472) = some r := by rw [if_neg (show ¬ (false = true) by decide)] at H; exact H
     clear H
     have H := H1
     clear H1
     have H' := Aside0.mk H
     clear H
     go_wp2
     go_loopg [15] kj10 (fun kq v15 w' => ∃ (x15_2 : Int), v15 = .int .i64 x15_2 ∧ Aside0 (laws_FnCommon.l0 kq t476 t478 t482 t486 x15_2 t469 t470 t471 t472 = some r) ∧ Aside0 (kq ≤ kj10) ∧ Aside0 (Kd.R (Kd.int .i64) 2 w' w.heap.size (fun k_ => some k_ ≠ (v483 : Value).ownBlock ∧ some k_ ≠ (v487 : Value).ownBlock) v479 t478) ∧ Aside0 (Kd.R (Kd.int .i64) 2 w' w.heap.size (fun k_ => some k_ ≠ (v479 : Value).ownBlock ∧ some k_ ≠ (v487 : Value).ownBlock) v483 t482) ∧ Aside0 (Kd.R (Kd.int .i64) 2 w' w.heap.size (fun k_ => some k_ ≠ (v479 : Value).ownBlock ∧ some k_ ≠ (v483 : Value).ownBlock) v487 t486) ∧ Aside0 (Kd.R k66 66 w' w.heap.size (fun _ => True) (.slice Ao15 t472.length co15) t472) ∧ Aside0 (w'.heap[gb475]? = some (.cells #[.complex .f32 t469.re t469.im, .complex .f32 t470.re t470.im, .complex .f32 t471.re t471.im, (.slice Ao15 t472.length co15)] 42 (0, 0))) ∧ Aside0 (Below w.heap.size w w'))
     case atStart => exact ⟨(0), rs_, H', ⟨Nat.le_refl _⟩, ⟨by refine ru ?_; exact HO_9.out⟩, ⟨by refine ru ?_; exact HO_11.out⟩, ⟨by refine ru ?_; exact HO_13.out⟩, ⟨by refine ru ?_; exact HO_476003.out⟩, ⟨by refine bu ?_; exact BK475.out⟩, ⟨tb⟩⟩
     case round =>
      clear H'
      try clear c1
      try clear c2
      try clear p2
      try clear c3
      try clear c4
      try clear c6
      try clear c21
      try clear c22
      try clear c23
      try clear c24
      try clear c24b0
      try clear c24b1
      try clear c24b2
      try clear c26
      try clear c26b0
      try clear c26b1
      try clear c32
      try clear hcz14_0
      try clear hcz14_1
      try clear hcz14_2
      try clear hcz14_3
      try clear hcz17_0
      try clear hcz17_1
      try clear hcz17_2
      try clear hcz17_3
      try clear hcz19_0
      try clear hcz19_1
      try clear hcz19_2
      try clear hcz19_3
      try clear hfz14_0
      try clear hfz14_1
      try clear hfz14_2
      try clear hfz14_3
      try clear hfz17_0
      try clear hfz17_1
      try clear hfz17_2
      try clear hfz17_3
      try clear hfz19_0
      try clear hfz19_1
      try clear hfz19_2
      try clear hfz19_3
      try clear p2
      obtain ⟨x15_2, rfl, HA, HK2, HO_9, HO_11, HO_13, HO_476003, BK475, HB⟩ := hrel
      cases gk with
      | zero => exact absurd HA.out (by simp [laws_FnCommon.l0])
      | succ k2 =>
       have H := HA.out
       clear HA
       simp only [laws_FnCommon.l0] at H
       by_cases c33 : x15_2 < (t478.length : Int)
       ·rw [if_pos c33] at H
        have c33b0 : decide (x15_2 < (t478.length : Int)) = true := decide_eq_true c33
        clear c33
        by_cases c34 : 0 ≤ x15_2
        ·rw [if_pos c34] at H
         have c34b0 : decide (0 ≤ x15_2) = true := decide_eq_true c34
         clear c34
         by_cases c35 : x15_2 < (t482.length : Int)
         ·rw [if_pos c35] at H
          have c35b0 : decide (x15_2 < (t482.length : Int)) = true := decide_eq_true c35
          clear c35
          by_cases c36 : (rd t478 x15_2) = (rd t482 x15_2)
          ·rw [if_pos c36] at H
           have c36b0 : ((rd t478 x15_2) == (rd t482 x15_2)) = true := beq_iff_eq.mpr c36
           have c36b1 : ((rd t478 x15_2) != (rd t482 x15_2)) = false := bne_eq_false_iff_eq.mpr c36
           clear c36
           by_cases c37 : x15_2 < (t486.length : Int)
           ·rw [if_pos c37] at H
            have c37b0 : decide (x15_2 < (t486.length : Int)) = true := decide_eq_true c37
            clear c37
            by_cases c38 : (rd t478 x15_2) = (rd t486 x15_2)
            ·rw [if_pos c38] at H
             have c38b0 : ((rd t478 x15_2) == (rd t486 x15_2)) = true := beq_iff_eq.mpr c38
             have c38b1 : ((rd t478 x15_2) != (rd t486 x15_2)) = false := bne_eq_false_iff_eq.mpr c38
             clear c38
             as_aux_lemma =>
              have H' := Aside0.mk H
              clear H
              obtain ⟨Ao39, co39, eo39⟩ := Kd.R_slice HO_9.out
              subst eo39
              try go_wp2
              have n0_ := Aside0.mk (Kd.R_drew HO_9.out)
              have n1_ := Aside0.mk (Kd.R_drew HO_11.out)
              have n2_ := Aside0.mk (Kd.R_drew HO_13.out)
              have n3_ := Aside0.mk (Kd.R_drew HO_476003.out)
              have n4_ := Aside0.mk (blk_drew BK475.out)
              have n5_ := Aside0.mk (below_drew1 HB.out)
              clear HO_9
              clear HO_11
              clear HO_13
              clear HO_476003
              clear BK475
              clear HB
              have HO_9 := n0_
              have HO_11 := n1_
              have HO_13 := n2_
              have HO_476003 := n3_
              have BK475 := n4_
              have HB := n5_
              clear n0_ n1_ n2_ n3_ n4_ n5_
              have p490 : 0 ≤ (x15_2 : Int) := of_decide_eq_true (by first | (with_reducible assumption) | assumption)
              have q490 : x15_2 < (t478.length : Int) := of_decide_eq_true (by first | (with_reducible assumption) | assumption)
              obtain ⟨ad490, e490, hx490_0⟩ := Kd.at_int (Kd.R_reads' HO_9.out).2.2 x15_2 p490 q490
              cases e490
              replace p490 := eq_true p490
              replace q490 := eq_true q490
              obtain ⟨Ao41, co41, eo41⟩ := Kd.R_slice HO_11.out
              (first | subst eo41 | (injection eo41 with f1_ f2_ f3_; have f4_ := f1_.symm; have f5_ := f3_.symm; clear f1_ f2_ f3_; subst f4_; subst f5_))
              have p491 : 0 ≤ (x15_2 : Int) := of_decide_eq_true (by first | (with_reducible assumption) | assumption)
              have q491 : x15_2 < (t482.length : Int) := of_decide_eq_true (by first | (with_reducible assumption) | assumption)
              obtain ⟨ad491, e491, hx491_0⟩ := Kd.at_int (Kd.R_reads' HO_11.out).2.2 x15_2 p491 q491
              cases e491
              replace p491 := eq_true p491
              replace q491 := eq_true q491
              have p492 : 0 ≤ (x15_2 : Int) := of_decide_eq_true (by first | (with_reducible assumption) | assumption)
              have q492 : x15_2 < (t478.length : Int) := of_decide_eq_true (by first | (with_reducible assumption) | assumption)
              obtain ⟨ad492, e492, hx492_0⟩ := Kd.at_int (Kd.R_reads' HO_9.out).2.2 x15_2 p492 q492
              obtain rfl : ad490 = ad492 := (by injection e492)
              replace p492 := eq_true p492
              replace q492 := eq_true q492
              obtain ⟨Ao42, co42, eo42⟩ := Kd.R_slice HO_13.out
              (first | subst eo42 | (injection eo42 with f1_ f2_ f3_; have f4_ := f1_.symm; have f5_ := f3_.symm; clear f1_ f2_ f3_; subst f4_; subst f5_))
              have p493 : 0 ≤ (x15_2 : Int) := of_decide_eq_true (by first | (with_reducible assumption) | assumption)
              have q493 : x15_2 < (t486.length : Int) := of_decide_eq_true (by first | (with_reducible assumption) | assumption)
              obtain ⟨ad493, e493, hx493_0⟩ := Kd.at_int (Kd.R_reads' HO_13.out).2.2 x15_2 p493 q493
              cases e493
              replace p493 := eq_true p493
              replace q493 := eq_true q493
              refine start_ (n := 20) (S := fun w' => w'.cell? (ad490.add (x15_2).toNat) = some (.int .i64 (rd t478 x15_2)) ∧ w'.cell? (ad491.add (x15_2).toNat) = some (.int .i64 (rd t482 x15_2)) ∧ w'.cell? (ad490.add (x15_2).toNat) = some (.int .i64 (rd t478 x15_2)) ∧ w'.cell? (ad493.add (x15_2).toNat) = some (.int .i64 (rd t486 x15_2))) (ds := []) #[false, false, false, false, false, false, false, false, false, false, false, false, false, false, false, false, false, false, false, false] (by kernel_rfl) rfl rfl ⟨hx490_0, hx491_0, hx492_0, hx493_0⟩ (fun hHeld => ?_); refine with_tabW laws_FnCommon.tab15 laws_FnCommon.bits15 (fun HT_ HW_ => ?_)
              generalize wr.drew = w40 at HO_9 HO_11 HO_13 HO_476003 BK475 HB hx490_0 hx491_0 hx492_0 hx493_0 hHeld ⊢
              refine pure_ (i := 0) (N := some 96) (v := ?_) (a' := ?_) #[true, false, false, false, false, false, false, false, false, false, false, false, false, false, false, false, false, false, false, false] rfl rfl (any_of HT_.out (by kernel_rfl)) (fun _ _ _ h => h) (Or.inl ⟨by rfl, ?_⟩) ?_ ?_
              rotate_left
              ·intro w'
               go_simp
               with_reducible rfl
              rotate_left
              ·refine ps_ ?_
               rfl
              refine pure_ (i := 1) (N := some 97) (v := ?_) (a' := ?_) #[true, true, false, false, false, false, false, false, false, false, false, false, false, false, false, false, false, false, false, false] rfl rfl (any_of HT_.out (by kernel_rfl)) (fun _ _ _ h => h) (Or.inl ⟨by rfl, ?_⟩) ?_ ?_
              rotate_left
              ·intro w'
               go_simp
               with_reducible rfl
              rotate_left
              ·refine ps_ ?_
               rfl
              refine pure_ (i := 2) (N := some 98) (v := ?_) (a' := ?_) #[true, true, true, false, false, false, false, false, false, false, false, false, false, false, false, false, false, false, false, false] rfl rfl (any_of HT_.out (by kernel_rfl)) (fun _ _ _ h => h) (Or.inl ⟨by rfl, ?_⟩) ?_ ?_
              rotate_left
              ·intro w'
               go_simp
               with_reducible rfl
              rotate_left
              ·refine ps_ ?_
               rfl
              refine pure_ (i := 4) (N := some 100) (v := ?_) (a' := ?_) #[true, true, true, false, true, false, false, false, false, false, false, false, false, false, false, false, false, false, false, false] rfl rfl (any_of HT_.out (by kernel_rfl)) (fun _ _ _ h => h) (Or.inl ⟨by rfl, ?_⟩) ?_ ?_
              rotate_left
              ·intro w'
               go_simp
               with_reducible rfl
              rotate_left
              ·refine ps_ ?_
               rfl
              refine pure_ (i := 5) (N := some 101) (v := ?_) (a' := ?_) #[true, true, true, false, true, true, false, false, false, false, false, false, false, false, false, false, false, false, false, false] rfl rfl (any_of HT_.out (by kernel_rfl)) (fun _ _ _ h => h) (Or.inl ⟨by rfl, ?_⟩) ?_ ?_
              rotate_left
              ·intro w'
               go_simp
               with_reducible rfl
              rotate_left
              ·refine ps_ ?_
               rfl
              refine pure_ (i := 6) (N := some 102) (v := ?_) (a' := ?_) #[true, true, true, false, true, true, true, false, false, false, false, false, false, false, false, false, false, false, false, false] rfl rfl (any_of HT_.out (by kernel_rfl)) (fun _ _ _ h => h) (Or.inl ⟨by rfl, ?_⟩) ?_ ?_
              rotate_left
              ·intro w'
               go_simp
               with_reducible rfl
              rotate_left
              ·refine ps_ ?_
               rfl
              refine take_ (i := 3) (N := some 99) (v := ?_) (a' := ?_) #[true, true, true, true, true, true, true, false, false, false, false, false, false, false, false, false, false, false, false, false] rfl rfl (take_ofW HT_.out HW_.out (by kernel_rfl)) (fun _ _ _ h => h) (Or.inl ⟨by rfl, ?_⟩) hHeld ?_ ?_
              rotate_left
              ·rintro w' ⟨s0, s1, s2, s3⟩
               go_simp
               with_reducible rfl
              rotate_left
              ·refine ps_ ?_
               rfl
              refine take_ (i := 7) (N := some 103) (v := ?_) (a' := ?_) #[true, true, true, true, true, true, true, true, false, false, false, false, false, false, false, false, false, false, false, false] rfl rfl (take_ofW HT_.out HW_.out (by kernel_rfl)) (fun _ _ _ h => h) (Or.inl ⟨by rfl, ?_⟩) hHeld ?_ ?_
              rotate_left
              ·rintro w' ⟨s0, s1, s2, s3⟩
               go_simp
               with_reducible rfl
              rotate_left
              ·refine ps_ ?_
               rfl
              refine pure_ (i := 8) (N := some 104) (v := ?_) (a' := ?_) #[true, true, true, true, true, true, true, true, true, false, false, false, false, false, false, false, false, false, false, false] rfl rfl (any_of HT_.out (by kernel_rfl)) (fun _ _ _ h => h) (Or.inl ⟨by rfl, ?_⟩) ?_ ?_
              rotate_left
              ·intro w'
               go_simp
               with_reducible rfl
              rotate_left
              ·refine ps_ ?_
               rfl
              refine pure_ (i := 9) (N := some 105) (v := ?_) (a' := ?_) #[true, true, true, true, true, true, true, true, true, true, false, false, false, false, false, false, false, false, false, false] rfl rfl (any_of HT_.out (by kernel_rfl)) (fun _ _ _ h => h) (Or.inl ⟨by rfl, ?_⟩) ?_ ?_
              rotate_left
              ·intro w'
               go_simp
               with_reducible rfl
              rotate_left
              ·refine ps_ ?_
               rfl
              refine pure_ (i := 10) (N := some 106) (v := ?_) (a' := ?_) #[true, true, true, true, true, true, true, true, true, true, true, false, false, false, false, false, false, false, false, false] rfl rfl (any_of HT_.out (by kernel_rfl)) (fun _ _ _ h => h) (Or.inl ⟨by rfl, ?_⟩) ?_ ?_
              rotate_left
              ·intro w'
               go_simp
               with_reducible rfl
              rotate_left
              ·refine ps_ ?_
               rfl
              refine pure_ (i := 11) (N := some 107) (v := ?_) (a' := ?_) #[true, true, true, true, true, true, true, true, true, true, true, true, false, false, false, false, false, false, false, false] rfl rfl (any_of HT_.out (by kernel_rfl)) (fun _ _ _ h => h) (Or.inl ⟨by rfl, ?_⟩) ?_ ?_
              rotate_left
              ·intro w'
               go_simp
               with_reducible rfl
              rotate_left
              ·refine ps_ ?_
               rfl
              refine pure_ (i := 12) (N := some 108) (v := ?_) (a' := ?_) #[true, true, true, true, true, true, true, true, true, true, true, true, true, false, false, false, false, false, false, false] rfl rfl (any_of HT_.out (by kernel_rfl)) (fun _ _ _ h => h) (Or.inl ⟨by rfl, ?_⟩) ?_ ?_
              rotate_left
              ·intro w'
               go_simp
               with_reducible rfl
              rotate_left
              ·refine ps_ ?_
               rfl
              refine pure_ (i := 14) (N := some 110) (v := ?_) (a' := ?_) #[true, true, true, true, true, true, true, true, true, true, true, true, true, false, true, false, false, false, false, false] rfl rfl (any_of HT_.out (by kernel_rfl)) (fun _ _ _ h => h) (Or.inl ⟨by rfl, ?_⟩) ?_ ?_
              rotate_left
              ·intro w'
               go_simp
               with_reducible rfl
              rotate_left
              ·refine ps_ ?_
               rfl
              refine pure_ (i := 15) (N := some 111) (v := ?_) (a' := ?_) #[true, true, true, true, true, true, true, true, true, true, true, true, true, false, true, true, false, false, false, false] rfl rfl (any_of HT_.out (by kernel_rfl)) (fun _ _ _ h => h) (Or.inl ⟨by rfl, ?_⟩) ?_ ?_
              rotate_left
              ·intro w'
               go_simp
               with_reducible rfl
              rotate_left
              ·refine ps_ ?_
               rfl
              refine pure_ (i := 16) (N := some 112) (v := ?_) (a' := ?_) #[true, true, true, true, true, true, true, true, true, true, true, true, true, false, true, true, true, false, false, false] rfl rfl (any_of HT_.out (by kernel_rfl)) (fun _ _ _ h => h) (Or.inl ⟨by rfl, ?_⟩) ?_ ?_
              rotate_left
              ·intro w'
               go_simp
               with_reducible rfl
              rotate_left
              ·refine ps_ ?_
               rfl
              refine take_ (i := 13) (N := some 109) (v := ?_) (a' := ?_) #[true, true, true, true, true, true, true, true, true, true, true, true, true, true, true, true, true, false, false, false] rfl rfl (take_ofW HT_.out HW_.out (by kernel_rfl)) (fun _ _ _ h => h) (Or.inl ⟨by rfl, ?_⟩) hHeld ?_ ?_
              rotate_left
              ·rintro w' ⟨s0, s1, s2, s3⟩
               go_simp
               with_reducible rfl
              rotate_left
              ·refine ps_ ?_
               rfl
              refine take_ (i := 17) (N := some 113) (v := ?_) (a' := ?_) #[true, true, true, true, true, true, true, true, true, true, true, true, true, true, true, true, true, true, false, false] rfl rfl (take_ofW HT_.out HW_.out (by kernel_rfl)) (fun _ _ _ h => h) (Or.inl ⟨by rfl, ?_⟩) hHeld ?_ ?_
              rotate_left
              ·rintro w' ⟨s0, s1, s2, s3⟩
               go_simp
               with_reducible rfl
              rotate_left
              ·refine ps_ ?_
               rfl
              refine pure_ (i := 18) (N := some 114) (v := ?_) (a' := ?_) #[true, true, true, true, true, true, true, true, true, true, true, true, true, true, true, true, true, true, true, false] rfl rfl (any_of HT_.out (by kernel_rfl)) (fun _ _ _ h => h) (Or.inl ⟨by rfl, ?_⟩) ?_ ?_
              rotate_left
              ·intro w'
               go_simp
               with_reducible rfl
              rotate_left
              ·refine ps_ ?_
               rfl
              refine pure_ (i := 19) (N := some 115) (v := ?_) (a' := ?_) #[true, true, true, true, true, true, true, true, true, true, true, true, true, true, true, true, true, true, true, true] rfl rfl (any_of HT_.out (by kernel_rfl)) (fun _ _ _ h => h) (Or.inl ⟨by rfl, ?_⟩) ?_ ?_
              rotate_left
              ·intro w'
               go_simp
               with_reducible rfl
              rotate_left
              ·refine ps_ ?_
               rfl
              refine done_ (done_of HT_.out (by kernel_rfl)) ?_
              try go_wp2
              go_roundg k2
              case measure => have := HJ10.out; have := HK2.out; omega
              case rel => exact ⟨(wrap64 (x15_2 + 1)), rs_, H', ⟨by have := HJ10.out; have := HK2.out; omega⟩, ⟨by refine ru ?_; exact HO_9.out⟩, ⟨by refine ru ?_; exact HO_11.out⟩, ⟨by refine ru ?_; exact HO_13.out⟩, ⟨by refine ru ?_; exact HO_476003.out⟩, ⟨by refine bu ?_; exact BK475.out⟩, ⟨tb⟩⟩
            ·rw [if_neg c38] at H
             have c38b0 : ((rd t478 x15_2) == (rd t486 x15_2)) = false := beq_eq_false_iff_ne.mpr c38
             have c38b1 : ((rd t478 x15_2) != (rd t486 x15_2)) = true := bne_iff_ne.mpr c38
             exact absurd (H.trans (congrArg some hlaw)) (by decide)
           ·rw [if_neg c37] at H
            exact absurd H (by simp)
          ·rw [if_neg c36] at H
           have c36b0 : ((rd t478 x15_2) == (rd t482 x15_2)) = false := beq_eq_false_iff_ne.mpr c36
           have c36b1 : ((rd t478 x15_2) != (rd t482 x15_2)) = true := bne_iff_ne.mpr c36
           exact absurd (H.trans (congrArg some hlaw)) (by decide)
         ·rw [if_neg c35] at H
          exact absurd H (by simp)
        ·rw [if_neg c34] at H
         exact absurd H (by simp)
       ·rw [if_neg c33] at H
        have c33b0 : decide (x15_2 < (t478.length : Int)) = false := decide_eq_false c33
        clear c33
        have HC43 := Aside0.mk H
        clear H
        obtain ⟨Ao44, co44, eo44⟩ := Kd.R_slice HO_9.out
        subst eo44
        go_upto_region 17 with (fail)
        go_cut [140] (fun v140 wc => ∃ (kq : Nat) (x140_42 : Bool), v140 = .bool x140_42 ∧ Aside0 (laws_FnCommon.j2 kq t476 x140_42 t469 t470 t471 t472 = some r) ∧ Aside0 (kq ≤ k2) ∧ Aside0 (Kd.R k66 66 wc w.heap.size (fun _ => True) (.slice Ao15 t472.length co15) t472) ∧ Aside0 (wc.heap[gb475]? = some (.cells #[.complex .f32 t469.re t469.im, .complex .f32 t470.re t470.im, .complex .f32 t471.re t471.im, (.slice Ao15 t472.length co15)] 42 (0, 0))) ∧ Aside0 (Below w.heap.size w wc))
        case first =>
         have H := HC43.out
         clear HC43
         by_cases c45 : (t478.length : Int) < (t482.length : Int)
         ·rw [if_pos c45] at H
          have c45b0 : decide ((t478.length : Int) < (t482.length : Int)) = true := decide_eq_true c45
          have c45b1 : decide (t478.length < t482.length) = true := decide_eq_true (Int.ofNat_lt.mp c45)
          clear c45
          (first | rw [c45b0] | (simp only [i64_w, i32_w]; rw [c45b0]) | skip)
          by_cases c46 : (t478.length : Int) < (t486.length : Int)
          ·rw [if_pos c46] at H
           have c46b0 : decide ((t478.length : Int) < (t486.length : Int)) = true := decide_eq_true c46
           have c46b1 : decide (t478.length < t486.length) = true := decide_eq_true (Int.ofNat_lt.mp c46)
           clear c46
           by_cases c47 : 0 ≤ (t478.length : Int)
           ·rw [if_pos c47] at H
            have c47b0 : decide (0 ≤ (t478.length : Int)) = true := decide_eq_true c47
            have c47b1 : decide (0 ≤ t478.length) = true := decide_eq_true (by omega)
            clear c47
            as_aux_lemma =>
             have H' := Aside0.mk H
             clear H
             try go_wp2
             have n0_ := Aside0.mk (Kd.R_drew HO_9.out)
             have n1_ := Aside0.mk (Kd.R_drew HO_11.out)
             have n2_ := Aside0.mk (Kd.R_drew HO_13.out)
             have n3_ := Aside0.mk (Kd.R_drew HO_476003.out)
             have n4_ := Aside0.mk (blk_drew BK475.out)
             have n5_ := Aside0.mk (below_drew1 HB.out)
             clear HO_9
             clear HO_11
             clear HO_13
             clear HO_476003
             clear BK475
             clear HB
             have HO_9 := n0_
             have HO_11 := n1_
             have HO_13 := n2_
             have HO_476003 := n3_
             have BK475 := n4_
             have HB := n5_
             clear n0_ n1_ n2_ n3_ n4_ n5_
             obtain ⟨Ao49, co49, eo49⟩ := Kd.R_slice HO_11.out
             (first | subst eo49 | (injection eo49 with f1_ f2_ f3_; have f4_ := f1_.symm; have f5_ := f3_.symm; clear f1_ f2_ f3_; subst f4_; subst f5_))
             obtain ⟨Ao50, co50, eo50⟩ := Kd.R_slice HO_13.out
             (first | subst eo50 | (injection eo50 with f1_ f2_ f3_; have f4_ := f1_.symm; have f5_ := f3_.symm; clear f1_ f2_ f3_; subst f4_; subst f5_))
             have p494 : 0 ≤ ((t478.length : Int) : Int) := of_decide_eq_true (by first | (with_reducible assumption) | assumption)
             have q494 : (t478.length : Int) < (t482.length : Int) := of_decide_eq_true (by first | (with_reducible assumption) | assumption)
             obtain ⟨ad494, e494, hx494_0⟩ := Kd.at_int (Kd.R_reads' HO_11.out).2.2 (t478.length : Int) p494 q494
             cases e494
             (try simp only [Go.IntWalk.toNatUp] at hx494_0)
             replace p494 := eq_true p494
             replace q494 := eq_true q494
             have p495 : 0 ≤ ((t478.length : Int) : Int) := of_decide_eq_true (by first | (with_reducible assumption) | assumption)
             have q495 : (t478.length : Int) < (t486.length : Int) := of_decide_eq_true (by first | (with_reducible assumption) | assumption)
             obtain ⟨ad495, e495, hx495_0⟩ := Kd.at_int (Kd.R_reads' HO_13.out).2.2 (t478.length : Int) p495 q495
             cases e495
             (try simp only [Go.IntWalk.toNatUp] at hx495_0)
             replace p495 := eq_true p495
             replace q495 := eq_true q495
             refine start_ (n := 25) (S := fun w' => w'.cell? (ad494.add ((t478.length : Int)).toNat) = some (.int .i64 (rd t482 (t478.length : Int))) ∧ w'.cell? (ad495.add ((t478.length : Int)).toNat) = some (.int .i64 (rd t486 (t478.length : Int)))) (ds := []) #[false, false, false, false, false, false, false, false, false, false, false, false, false, false, false, false, false, false, false, false, false, false, false, false, false] (by kernel_rfl) rfl rfl ⟨hx494_0, hx495_0⟩ (fun hHeld => ?_); refine with_tabW laws_FnCommon.tab17 laws_FnCommon.bits17 (fun HT_ HW_ => ?_)
             generalize wr.drew = w48 at HO_9 HO_11 HO_13 HO_476003 BK475 HB hx494_0 hx495_0 hHeld ⊢
             refine pure_ (i := 0) (N := some 116) (v := ?_) (a' := ?_) #[true, false, false, false, false, false, false, false, false, false, false, false, false, false, false, false, false, false, false, false, false, false, false, false, false] rfl rfl (any_of HT_.out (by kernel_rfl)) (fun _ _ _ h => h) (Or.inl ⟨by rfl, ?_⟩) ?_ ?_
             rotate_left
             ·intro w'
              go_simp
              with_reducible rfl
             rotate_left
             ·refine ps_ ?_
              rfl
             refine pure_ (i := 1) (N := some 117) (v := ?_) (a' := ?_) #[true, true, false, false, false, false, false, false, false, false, false, false, false, false, false, false, false, false, false, false, false, false, false, false, false] rfl rfl (any_of HT_.out (by kernel_rfl)) (fun _ _ _ h => h) (Or.inl ⟨by rfl, ?_⟩) ?_ ?_
             rotate_left
             ·intro w'
              go_simp
              with_reducible rfl
             rotate_left
             ·refine ps_ ?_
              rfl
             refine pure_ (i := 2) (N := some 118) (v := ?_) (a' := ?_) #[true, true, true, false, false, false, false, false, false, false, false, false, false, false, false, false, false, false, false, false, false, false, false, false, false] rfl rfl (any_of HT_.out (by kernel_rfl)) (fun _ _ _ h => h) (Or.inl ⟨by rfl, ?_⟩) ?_ ?_
             rotate_left
             ·intro w'
              go_simp
              with_reducible rfl
             rotate_left
             ·refine ps_ ?_
              rfl
             refine pure_ (i := 3) (N := some 119) (v := ?_) (a' := ?_) #[true, true, true, true, false, false, false, false, false, false, false, false, false, false, false, false, false, false, false, false, false, false, false, false, false] rfl rfl (any_of HT_.out (by kernel_rfl)) (fun _ _ _ h => h) (Or.inl ⟨by rfl, ?_⟩) ?_ ?_
             rotate_left
             ·intro w'
              go_simp
              with_reducible rfl
             rotate_left
             ·refine ps_ ?_
              rfl
             refine pure_ (i := 4) (N := some 120) (v := ?_) (a' := ?_) #[true, true, true, true, true, false, false, false, false, false, false, false, false, false, false, false, false, false, false, false, false, false, false, false, false] rfl rfl (any_of HT_.out (by kernel_rfl)) (fun _ _ _ h => h) (Or.inl ⟨by rfl, ?_⟩) ?_ ?_
             rotate_left
             ·intro w'
              go_simp
              with_reducible rfl
             rotate_left
             ·refine ps_ ?_
              rfl
             refine pure_ (i := 5) (N := some 121) (v := ?_) (a' := ?_) #[true, true, true, true, true, true, false, false, false, false, false, false, false, false, false, false, false, false, false, false, false, false, false, false, false] rfl rfl (any_of HT_.out (by kernel_rfl)) (fun _ _ _ h => h) (Or.inl ⟨by rfl, ?_⟩) ?_ ?_
             rotate_left
             ·intro w'
              go_simp
              with_reducible rfl
             rotate_left
             ·refine ps_ ?_
              rfl
             refine pure_ (i := 6) (N := some 122) (v := ?_) (a' := ?_) #[true, true, true, true, true, true, true, false, false, false, false, false, false, false, false, false, false, false, false, false, false, false, false, false, false] rfl rfl (any_of HT_.out (by kernel_rfl)) (fun _ _ _ h => h) (Or.inl ⟨by rfl, ?_⟩) ?_ ?_
             rotate_left
             ·intro w'
              go_simp
              with_reducible rfl
             rotate_left
             ·refine ps_ ?_
              rfl
             refine pure_ (i := 7) (N := some 123) (v := ?_) (a' := ?_) #[true, true, true, true, true, true, true, true, false, false, false, false, false, false, false, false, false, false, false, false, false, false, false, false, false] rfl rfl (any_of HT_.out (by kernel_rfl)) (fun _ _ _ h => h) (Or.inl ⟨by rfl, ?_⟩) ?_ ?_
             rotate_left
             ·intro w'
              go_simp
              with_reducible rfl
             rotate_left
             ·refine ps_ ?_
              rfl
             refine pure_ (i := 8) (N := some 124) (v := ?_) (a' := ?_) #[true, true, true, true, true, true, true, true, true, false, false, false, false, false, false, false, false, false, false, false, false, false, false, false, false] rfl rfl (any_of HT_.out (by kernel_rfl)) (fun _ _ _ h => h) (Or.inl ⟨by rfl, ?_⟩) ?_ ?_
             rotate_left
             ·intro w'
              go_simp
              with_reducible rfl
             rotate_left
             ·refine ps_ ?_
              rfl
             refine pure_ (i := 9) (N := some 125) (v := ?_) (a' := ?_) #[true, true, true, true, true, true, true, true, true, true, false, false, false, false, false, false, false, false, false, false, false, false, false, false, false] rfl rfl (any_of HT_.out (by kernel_rfl)) (fun _ _ _ h => h) (Or.inl ⟨by rfl, ?_⟩) ?_ ?_
             rotate_left
             ·intro w'
              go_simp
              with_reducible rfl
             rotate_left
             ·refine ps_ ?_
              rfl
             refine pure_ (i := 10) (N := some 126) (v := ?_) (a' := ?_) #[true, true, true, true, true, true, true, true, true, true, true, false, false, false, false, false, false, false, false, false, false, false, false, false, false] rfl rfl (any_of HT_.out (by kernel_rfl)) (fun _ _ _ h => h) (Or.inl ⟨by rfl, ?_⟩) ?_ ?_
             rotate_left
             ·intro w'
              go_simp
              with_reducible rfl
             rotate_left
             ·refine ps_ ?_
              rfl
             refine pure_ (i := 11) (N := some 127) (v := ?_) (a' := ?_) #[true, true, true, true, true, true, true, true, true, true, true, true, false, false, false, false, false, false, false, false, false, false, false, false, false] rfl rfl (any_of HT_.out (by kernel_rfl)) (fun _ _ _ h => h) (Or.inl ⟨by rfl, ?_⟩) ?_ ?_
             rotate_left
             ·intro w'
              go_simp
              with_reducible rfl
             rotate_left
             ·refine ps_ ?_
              rfl
             refine pure_ (i := 12) (N := some 128) (v := ?_) (a' := ?_) #[true, true, true, true, true, true, true, true, true, true, true, true, true, false, false, false, false, false, false, false, false, false, false, false, false] rfl rfl (any_of HT_.out (by kernel_rfl)) (fun _ _ _ h => h) (Or.inl ⟨by rfl, ?_⟩) ?_ ?_
             rotate_left
             ·intro w'
              go_simp
              with_reducible rfl
             rotate_left
             ·refine ps_ ?_
              rfl
             refine pure_ (i := 13) (N := some 129) (v := ?_) (a' := ?_) #[true, true, true, true, true, true, true, true, true, true, true, true, true, true, false, false, false, false, false, false, false, false, false, false, false] rfl rfl (any_of HT_.out (by kernel_rfl)) (fun _ _ _ h => h) (Or.inl ⟨by rfl, ?_⟩) ?_ ?_
             rotate_left
             ·intro w'
              go_simp
              with_reducible rfl
             rotate_left
             ·refine ps_ ?_
              rfl
             refine pure_ (i := 14) (N := some 130) (v := ?_) (a' := ?_) #[true, true, true, true, true, true, true, true, true, true, true, true, true, true, true, false, false, false, false, false, false, false, false, false, false] rfl rfl (any_of HT_.out (by kernel_rfl)) (fun _ _ _ h => h) (Or.inl ⟨by rfl, ?_⟩) ?_ ?_
             rotate_left
             ·intro w'
              go_simp
              with_reducible rfl
             rotate_left
             ·refine ps_ ?_
              rfl
             refine pure_ (i := 15) (N := some 131) (v := ?_) (a' := ?_) #[true, true, true, true, true, true, true, true, true, true, true, true, true, true, true, true, false, false, false, false, false, false, false, false, false] rfl rfl (any_of HT_.out (by kernel_rfl)) (fun _ _ _ h => h) (Or.inl ⟨by rfl, ?_⟩) ?_ ?_
             rotate_left
             ·intro w'
              go_simp
              with_reducible rfl
             rotate_left
             ·refine ps_ ?_
              rfl
             refine pure_ (i := 16) (N := some 132) (v := ?_) (a' := ?_) #[true, true, true, true, true, true, true, true, true, true, true, true, true, true, true, true, true, false, false, false, false, false, false, false, false] rfl rfl (any_of HT_.out (by kernel_rfl)) (fun _ _ _ h => h) (Or.inl ⟨by rfl, ?_⟩) ?_ ?_
             rotate_left
             ·intro w'
              go_simp
              with_reducible rfl
             rotate_left
             ·refine ps_ ?_
              rfl
             refine pure_ (i := 18) (N := some 134) (v := ?_) (a' := ?_) #[true, true, true, true, true, true, true, true, true, true, true, true, true, true, true, true, true, false, true, false, false, false, false, false, false] rfl rfl (any_of HT_.out (by kernel_rfl)) (fun _ _ _ h => h) (Or.inl ⟨by rfl, ?_⟩) ?_ ?_
             rotate_left
             ·intro w'
              go_simp
              with_reducible rfl
             rotate_left
             ·refine ps_ ?_
              rfl
             refine pure_ (i := 19) (N := some 135) (v := ?_) (a' := ?_) #[true, true, true, true, true, true, true, true, true, true, true, true, true, true, true, true, true, false, true, true, false, false, false, false, false] rfl rfl (any_of HT_.out (by kernel_rfl)) (fun _ _ _ h => h) (Or.inl ⟨by rfl, ?_⟩) ?_ ?_
             rotate_left
             ·intro w'
              go_simp
              with_reducible rfl
             rotate_left
             ·refine ps_ ?_
              rfl
             refine pure_ (i := 20) (N := some 136) (v := ?_) (a' := ?_) #[true, true, true, true, true, true, true, true, true, true, true, true, true, true, true, true, true, false, true, true, true, false, false, false, false] rfl rfl (any_of HT_.out (by kernel_rfl)) (fun _ _ _ h => h) (Or.inl ⟨by rfl, ?_⟩) ?_ ?_
             rotate_left
             ·intro w'
              go_simp
              with_reducible rfl
             rotate_left
             ·refine ps_ ?_
              rfl
             refine pure_ (i := 21) (N := some 137) (v := ?_) (a' := ?_) #[true, true, true, true, true, true, true, true, true, true, true, true, true, true, true, true, true, false, true, true, true, true, false, false, false] rfl rfl (any_of HT_.out (by kernel_rfl)) (fun _ _ _ h => h) (Or.inl ⟨by rfl, ?_⟩) ?_ ?_
             rotate_left
             ·intro w'
              go_simp
              with_reducible rfl
             rotate_left
             ·refine ps_ ?_
              rfl
             refine take_ (i := 17) (N := some 133) (v := ?_) (a' := ?_) #[true, true, true, true, true, true, true, true, true, true, true, true, true, true, true, true, true, true, true, true, true, true, false, false, false] rfl rfl (take_ofW HT_.out HW_.out (by kernel_rfl)) (fun _ _ _ h => h) (Or.inl ⟨by rfl, ?_⟩) hHeld ?_ ?_
             rotate_left
             ·rintro w' ⟨s0, s1⟩; (try simp only [Int.toNat_natCast] at s0 s1)
              go_simp
              with_reducible rfl
             rotate_left
             ·refine ps_ ?_
              rfl
             refine take_ (i := 22) (N := some 138) (v := ?_) (a' := ?_) #[true, true, true, true, true, true, true, true, true, true, true, true, true, true, true, true, true, true, true, true, true, true, true, false, false] rfl rfl (take_ofW HT_.out HW_.out (by kernel_rfl)) (fun _ _ _ h => h) (Or.inl ⟨by rfl, ?_⟩) hHeld ?_ ?_
             rotate_left
             ·rintro w' ⟨s0, s1⟩; (try simp only [Int.toNat_natCast] at s0 s1)
              go_simp
              with_reducible rfl
             rotate_left
             ·refine ps_ ?_
              rfl
             refine pure_ (i := 23) (N := some 139) (v := ?_) (a' := ?_) #[true, true, true, true, true, true, true, true, true, true, true, true, true, true, true, true, true, true, true, true, true, true, true, true, false] rfl rfl (any_of HT_.out (by kernel_rfl)) (fun _ _ _ h => h) (Or.inl ⟨by rfl, ?_⟩) ?_ ?_
             rotate_left
             ·intro w'
              go_simp
              with_reducible rfl
             rotate_left
             ·refine ps_ ?_
              rfl
             refine pure_ (i := 24) (N := some 140) (v := ?_) (a' := ?_) #[true, true, true, true, true, true, true, true, true, true, true, true, true, true, true, true, true, true, true, true, true, true, true, true, true] rfl rfl (any_of HT_.out (by kernel_rfl)) (fun _ _ _ h => h) (Or.inl ⟨by rfl, ?_⟩) ?_ ?_
             rotate_left
             ·intro w'
              go_simp
              with_reducible rfl
             rotate_left
             ·refine ps_ ?_
              rfl
             refine done_ (done_of HT_.out (by kernel_rfl)) ?_
             try go_wp2
             go_meet
             case rel => exact ⟨_, (((rd t482 (t478.length : Int)) == (rd t486 (t478.length : Int)))), rs_, H', ⟨by have := HJ10.out; have := HK2.out; exact om_⟩, ⟨by refine ru ?_; exact HO_476003.out⟩, ⟨by refine bu ?_; exact BK475.out⟩, ⟨tb⟩⟩
           ·rw [if_neg c47] at H
            exact absurd H (by simp)
          ·rw [if_neg c46] at H
           have c46b0 : decide ((t478.length : Int) < (t486.length : Int)) = false := decide_eq_false c46
           have c46b1 : decide (t478.length < t486.length) = false := decide_eq_false (fun h => c46 (Int.ofNat_lt.mpr h))
           clear c46
           as_aux_lemma =>
            have H' := Aside0.mk H
            clear H
            try go_wp2
            have n0_ := Aside0.mk (Kd.R_drew HO_9.out)
            have n1_ := Aside0.mk (Kd.R_drew HO_11.out)
            have n2_ := Aside0.mk (Kd.R_drew HO_13.out)
            have n3_ := Aside0.mk (Kd.R_drew HO_476003.out)
            have n4_ := Aside0.mk (blk_drew BK475.out)
            have n5_ := Aside0.mk (below_drew1 HB.out)
            clear HO_9
            clear HO_11
            clear HO_13
            clear HO_476003
            clear BK475
            clear HB
            have HO_9 := n0_
            have HO_11 := n1_
            have HO_13 := n2_
            have HO_476003 := n3_
            have BK475 := n4_
            have HB := n5_
            clear n0_ n1_ n2_ n3_ n4_ n5_
            obtain ⟨Ao52, co52, eo52⟩ := Kd.R_slice HO_11.out
            (first | subst eo52 | (injection eo52 with f1_ f2_ f3_; have f4_ := f1_.symm; have f5_ := f3_.symm; clear f1_ f2_ f3_; subst f4_; subst f5_))
            obtain ⟨Ao53, co53, eo53⟩ := Kd.R_slice HO_13.out
            (first | subst eo53 | (injection eo53 with f1_ f2_ f3_; have f4_ := f1_.symm; have f5_ := f3_.symm; clear f1_ f2_ f3_; subst f4_; subst f5_))
            refine start_ (n := 25) (S := fun w' => True) (ds := []) #[false, false, false, false, false, false, false, false, false, false, false, false, false, false, false, false, false, false, false, false, false, false, false, false, false] (by kernel_rfl) rfl rfl trivial (fun hHeld => ?_); refine with_tabW laws_FnCommon.tab17 laws_FnCommon.bits17 (fun HT_ HW_ => ?_)
            generalize wr.drew = w51 at HO_9 HO_11 HO_13 HO_476003 BK475 HB hHeld ⊢
            refine pure_ (i := 0) (N := some 116) (v := ?_) (a' := ?_) #[true, false, false, false, false, false, false, false, false, false, false, false, false, false, false, false, false, false, false, false, false, false, false, false, false] rfl rfl (any_of HT_.out (by kernel_rfl)) (fun _ _ _ h => h) (Or.inl ⟨by rfl, ?_⟩) ?_ ?_
            rotate_left
            ·intro w'
             go_simp
             with_reducible rfl
            rotate_left
            ·refine ps_ ?_
             rfl
            refine pure_ (i := 1) (N := some 117) (v := ?_) (a' := ?_) #[true, true, false, false, false, false, false, false, false, false, false, false, false, false, false, false, false, false, false, false, false, false, false, false, false] rfl rfl (any_of HT_.out (by kernel_rfl)) (fun _ _ _ h => h) (Or.inl ⟨by rfl, ?_⟩) ?_ ?_
            rotate_left
            ·intro w'
             go_simp
             with_reducible rfl
            rotate_left
            ·refine ps_ ?_
             rfl
            refine pure_ (i := 2) (N := some 118) (v := ?_) (a' := ?_) #[true, true, true, false, false, false, false, false, false, false, false, false, false, false, false, false, false, false, false, false, false, false, false, false, false] rfl rfl (any_of HT_.out (by kernel_rfl)) (fun _ _ _ h => h) (Or.inl ⟨by rfl, ?_⟩) ?_ ?_
            rotate_left
            ·intro w'
             go_simp
             with_reducible rfl
            rotate_left
            ·refine ps_ ?_
             rfl
            refine pure_ (i := 3) (N := some 119) (v := ?_) (a' := ?_) #[true, true, true, true, false, false, false, false, false, false, false, false, false, false, false, false, false, false, false, false, false, false, false, false, false] rfl rfl (any_of HT_.out (by kernel_rfl)) (fun _ _ _ h => h) (Or.inl ⟨by rfl, ?_⟩) ?_ ?_
            rotate_left
            ·intro w'
             go_simp
             with_reducible rfl
            rotate_left
            ·refine ps_ ?_
             rfl
            refine pure_ (i := 4) (N := some 120) (v := ?_) (a' := ?_) #[true, true, true, true, true, false, false, false, false, false, false, false, false, false, false, false, false, false, false, false, false, false, false, false, false] rfl rfl (any_of HT_.out (by kernel_rfl)) (fun _ _ _ h => h) (Or.inl ⟨by rfl, ?_⟩) ?_ ?_
            rotate_left
            ·intro w'
             go_simp
             with_reducible rfl
            rotate_left
            ·refine ps_ ?_
             rfl
            refine pure_ (i := 5) (N := some 121) (v := ?_) (a' := ?_) #[true, true, true, true, true, true, false, false, false, false, false, false, false, false, false, false, false, false, false, false, false, false, false, false, false] rfl rfl (any_of HT_.out (by kernel_rfl)) (fun _ _ _ h => h) (Or.inl ⟨by rfl, ?_⟩) ?_ ?_
            rotate_left
            ·intro w'
             go_simp
             with_reducible rfl
            rotate_left
            ·refine ps_ ?_
             rfl
            refine pure_ (i := 6) (N := some 122) (v := ?_) (a' := ?_) #[true, true, true, true, true, true, true, false, false, false, false, false, false, false, false, false, false, false, false, false, false, false, false, false, false] rfl rfl (any_of HT_.out (by kernel_rfl)) (fun _ _ _ h => h) (Or.inl ⟨by rfl, ?_⟩) ?_ ?_
            rotate_left
            ·intro w'
             go_simp
             with_reducible rfl
            rotate_left
            ·refine ps_ ?_
             rfl
            refine pure_ (i := 7) (N := some 123) (v := ?_) (a' := ?_) #[true, true, true, true, true, true, true, true, false, false, false, false, false, false, false, false, false, false, false, false, false, false, false, false, false] rfl rfl (any_of HT_.out (by kernel_rfl)) (fun _ _ _ h => h) (Or.inl ⟨by rfl, ?_⟩) ?_ ?_
            rotate_left
            ·intro w'
             go_simp
             with_reducible rfl
            rotate_left
            ·refine ps_ ?_
             rfl
            refine pure_ (i := 8) (N := some 124) (v := ?_) (a' := ?_) #[true, true, true, true, true, true, true, true, true, false, false, false, false, false, false, false, false, false, false, false, false, false, false, false, false] rfl rfl (any_of HT_.out (by kernel_rfl)) (fun _ _ _ h => h) (Or.inl ⟨by rfl, ?_⟩) ?_ ?_
            rotate_left
            ·intro w'
             go_simp
             with_reducible rfl
            rotate_left
            ·refine ps_ ?_
             rfl
            refine pure_ (i := 9) (N := some 125) (v := ?_) (a' := ?_) #[true, true, true, true, true, true, true, true, true, true, false, false, false, false, false, false, false, false, false, false, false, false, false, false, false] rfl rfl (any_of HT_.out (by kernel_rfl)) (fun _ _ _ h => h) (Or.inl ⟨by rfl, ?_⟩) ?_ ?_
            rotate_left
            ·intro w'
             go_simp
             with_reducible rfl
            rotate_left
            ·refine ps_ ?_
             rfl
            refine pure_ (i := 10) (N := some 126) (v := ?_) (a' := ?_) #[true, true, true, true, true, true, true, true, true, true, true, false, false, false, false, false, false, false, false, false, false, false, false, false, false] rfl rfl (any_of HT_.out (by kernel_rfl)) (fun _ _ _ h => h) (Or.inl ⟨by rfl, ?_⟩) ?_ ?_
            rotate_left
            ·intro w'
             go_simp
             with_reducible rfl
            rotate_left
            ·refine ps_ ?_
             rfl
            refine pure_ (i := 11) (N := some 127) (v := ?_) (a' := ?_) #[true, true, true, true, true, true, true, true, true, true, true, true, false, false, false, false, false, false, false, false, false, false, false, false, false] rfl rfl (any_of HT_.out (by kernel_rfl)) (fun _ _ _ h => h) (Or.inl ⟨by rfl, ?_⟩) ?_ ?_
            rotate_left
            ·intro w'
             go_simp
             with_reducible rfl
            rotate_left
            ·refine ps_ ?_
             rfl
            refine pure_ (i := 12) (N := some 128) (v := ?_) (a' := ?_) #[true, true, true, true, true, true, true, true, true, true, true, true, true, false, false, false, false, false, false, false, false, false, false, false, false] rfl rfl (any_of HT_.out (by kernel_rfl)) (fun _ _ _ h => h) (Or.inl ⟨by rfl, ?_⟩) ?_ ?_
            rotate_left
            ·intro w'
             go_simp
             with_reducible rfl
            rotate_left
            ·refine ps_ ?_
             rfl
            refine pure_ (i := 13) (N := some 129) (v := undef) (a' := ?_) #[true, true, true, true, true, true, true, true, true, true, true, true, true, true, false, false, false, false, false, false, false, false, false, false, false] rfl rfl (any_of HT_.out (by kernel_rfl)) (fun _ _ _ h => h) (Or.inr ⟨by rfl, rfl⟩) ?_ ?_
            rotate_left
            ·refine ps_ ?_
             rfl
            refine pure_ (i := 14) (N := some 130) (v := undef) (a' := ?_) #[true, true, true, true, true, true, true, true, true, true, true, true, true, true, true, false, false, false, false, false, false, false, false, false, false] rfl rfl (any_of HT_.out (by kernel_rfl)) (fun _ _ _ h => h) (Or.inr ⟨by rfl, rfl⟩) ?_ ?_
            rotate_left
            ·refine ps_ ?_
             rfl
            refine pure_ (i := 15) (N := some 131) (v := undef) (a' := ?_) #[true, true, true, true, true, true, true, true, true, true, true, true, true, true, true, true, false, false, false, false, false, false, false, false, false] rfl rfl (any_of HT_.out (by kernel_rfl)) (fun _ _ _ h => h) (Or.inr ⟨by rfl, rfl⟩) ?_ ?_
            rotate_left
            ·refine ps_ ?_
             rfl
            refine pure_ (i := 16) (N := some 132) (v := undef) (a' := ?_) #[true, true, true, true, true, true, true, true, true, true, true, true, true, true, true, true, true, false, false, false, false, false, false, false, false] rfl rfl (any_of HT_.out (by kernel_rfl)) (fun _ _ _ h => h) (Or.inr ⟨by rfl, rfl⟩) ?_ ?_
            rotate_left
            ·refine ps_ ?_
             rfl
            refine pure_ (i := 17) (N := some 133) (v := undef) (a' := ?_) #[true, true, true, true, true, true, true, true, true, true, true, true, true, true, true, true, true, true, false, false, false, false, false, false, false] rfl rfl (any_of HT_.out (by kernel_rfl)) (fun _ _ _ h => h) (Or.inr ⟨by rfl, rfl⟩) ?_ ?_
            rotate_left
            ·refine ps_ ?_
             rfl
            refine pure_ (i := 18) (N := some 134) (v := undef) (a' := ?_) #[true, true, true, true, true, true, true, true, true, true, true, true, true, true, true, true, true, true, true, false, false, false, false, false, false] rfl rfl (any_of HT_.out (by kernel_rfl)) (fun _ _ _ h => h) (Or.inr ⟨by rfl, rfl⟩) ?_ ?_
            rotate_left
            ·refine ps_ ?_
             rfl
            refine pure_ (i := 19) (N := some 135) (v := undef) (a' := ?_) #[true, true, true, true, true, true, true, true, true, true, true, true, true, true, true, true, true, true, true, true, false, false, false, false, false] rfl rfl (any_of HT_.out (by kernel_rfl)) (fun _ _ _ h => h) (Or.inr ⟨by rfl, rfl⟩) ?_ ?_
            rotate_left
            ·refine ps_ ?_
             rfl
            refine pure_ (i := 20) (N := some 136) (v := undef) (a' := ?_) #[true, true, true, true, true, true, true, true, true, true, true, true, true, true, true, true, true, true, true, true, true, false, false, false, false] rfl rfl (any_of HT_.out (by kernel_rfl)) (fun _ _ _ h => h) (Or.inr ⟨by rfl, rfl⟩) ?_ ?_
            rotate_left
            ·refine ps_ ?_
             rfl
            refine pure_ (i := 21) (N := some 137) (v := undef) (a' := ?_) #[true, true, true, true, true, true, true, true, true, true, true, true, true, true, true, true, true, true, true, true, true, true, false, false, false] rfl rfl (any_of HT_.out (by kernel_rfl)) (fun _ _ _ h => h) (Or.inr ⟨by rfl, rfl⟩) ?_ ?_
            rotate_left
            ·refine ps_ ?_
             rfl
            refine pure_ (i := 22) (N := some 138) (v := undef) (a' := ?_) #[true, true, true, true, true, true, true, true, true, true, true, true, true, true, true, true, true, true, true, true, true, true, true, false, false] rfl rfl (any_of HT_.out (by kernel_rfl)) (fun _ _ _ h => h) (Or.inr ⟨by rfl, rfl⟩) ?_ ?_
            rotate_left
            ·refine ps_ ?_
             rfl
            refine pure_ (i := 23) (N := some 139) (v := undef) (a' := ?_) #[true, true, true, true, true, true, true, true, true, true, true, true, true, true, true, true, true, true, true, true, true, true, true, true, false] rfl rfl (any_of HT_.out (by kernel_rfl)) (fun _ _ _ h => h) (Or.inr ⟨by rfl, rfl⟩) ?_ ?_
            rotate_left
            ·refine ps_ ?_
             rfl
            refine pure_ (i := 24) (N := some 140) (v := ?_) (a' := ?_) #[true, true, true, true, true, true, true, true, true, true, true, true, true, true, true, true, true, true, true, true, true, true, true, true, true] rfl rfl (any_of HT_.out (by kernel_rfl)) (fun _ _ _ h => h) (Or.inl ⟨by rfl, ?_⟩) ?_ ?_
            rotate_left
            ·intro w'
             go_simp
             with_reducible rfl
            rotate_left
            ·refine ps_ ?_
             rfl
            refine done_ (done_of HT_.out (by kernel_rfl)) ?_
            try go_wp2
            go_meet
            case rel => exact ⟨_, (false), rs_, H', ⟨by have := HJ10.out; have := HK2.out; exact om_⟩, ⟨by refine ru ?_; exact HO_476003.out⟩, ⟨by refine bu ?_; exact BK475.out⟩, ⟨tb⟩⟩
         ·rw [if_neg c45] at H
          have c45b0 : decide ((t478.length : Int) < (t482.length : Int)) = false := decide_eq_false c45
          have c45b1 : decide (t478.length < t482.length) = false := decide_eq_false (fun h => c45 (Int.ofNat_lt.mpr h))
          clear c45
          (first | rw [c45b0] | (simp only [i64_w, i32_w]; rw [c45b0]) | skip)
          as_aux_lemma =>
           have H' := Aside0.mk H
           clear H
           try go_wp2
           have n0_ := Aside0.mk (Kd.R_drew HO_9.out)
           have n1_ := Aside0.mk (Kd.R_drew HO_11.out)
           have n2_ := Aside0.mk (Kd.R_drew HO_13.out)
           have n3_ := Aside0.mk (Kd.R_drew HO_476003.out)
           have n4_ := Aside0.mk (blk_drew BK475.out)
           have n5_ := Aside0.mk (below_drew1 HB.out)
           clear HO_9
           clear HO_11
           clear HO_13
           clear HO_476003
           clear BK475
           clear HB
           have HO_9 := n0_
           have HO_11 := n1_
           have HO_13 := n2_
           have HO_476003 := n3_
           have BK475 := n4_
           have HB := n5_
           clear n0_ n1_ n2_ n3_ n4_ n5_
           obtain ⟨Ao55, co55, eo55⟩ := Kd.R_slice HO_11.out
           (first | subst eo55 | (injection eo55 with f1_ f2_ f3_; have f4_ := f1_.symm; have f5_ := f3_.symm; clear f1_ f2_ f3_; subst f4_; subst f5_))
           refine start_ (n := 25) (S := fun w' => True) (ds := []) #[false, false, false, false, false, false, false, false, false, false, false, false, false, false, false, false, false, false, false, false, false, false, false, false, false] (by kernel_rfl) rfl rfl trivial (fun hHeld => ?_); refine with_tabW laws_FnCommon.tab17 laws_FnCommon.bits17 (fun HT_ HW_ => ?_)
           generalize wr.drew = w54 at HO_9 HO_11 HO_13 HO_476003 BK475 HB hHeld ⊢
           refine pure_ (i := 0) (N := some 116) (v := ?_) (a' := ?_) #[true, false, false, false, false, false, false, false, false, false, false, false, false, false, false, false, false, false, false, false, false, false, false, false, false] rfl rfl (any_of HT_.out (by kernel_rfl)) (fun _ _ _ h => h) (Or.inl ⟨by rfl, ?_⟩) ?_ ?_
           rotate_left
           ·intro w'
            go_simp
            with_reducible rfl
           rotate_left
           ·refine ps_ ?_
            rfl
           refine pure_ (i := 1) (N := some 117) (v := ?_) (a' := ?_) #[true, true, false, false, false, false, false, false, false, false, false, false, false, false, false, false, false, false, false, false, false, false, false, false, false] rfl rfl (any_of HT_.out (by kernel_rfl)) (fun _ _ _ h => h) (Or.inl ⟨by rfl, ?_⟩) ?_ ?_
           rotate_left
           ·intro w'
            go_simp
            with_reducible rfl
           rotate_left
           ·refine ps_ ?_
            rfl
           refine pure_ (i := 2) (N := some 118) (v := ?_) (a' := ?_) #[true, true, true, false, false, false, false, false, false, false, false, false, false, false, false, false, false, false, false, false, false, false, false, false, false] rfl rfl (any_of HT_.out (by kernel_rfl)) (fun _ _ _ h => h) (Or.inl ⟨by rfl, ?_⟩) ?_ ?_
           rotate_left
           ·intro w'
            go_simp
            with_reducible rfl
           rotate_left
           ·refine ps_ ?_
            rfl
           refine pure_ (i := 3) (N := some 119) (v := ?_) (a' := ?_) #[true, true, true, true, false, false, false, false, false, false, false, false, false, false, false, false, false, false, false, false, false, false, false, false, false] rfl rfl (any_of HT_.out (by kernel_rfl)) (fun _ _ _ h => h) (Or.inl ⟨by rfl, ?_⟩) ?_ ?_
           rotate_left
           ·intro w'
            go_simp
            with_reducible rfl
           rotate_left
           ·refine ps_ ?_
            rfl
           refine pure_ (i := 4) (N := some 120) (v := ?_) (a' := ?_) #[true, true, true, true, true, false, false, false, false, false, false, false, false, false, false, false, false, false, false, false, false, false, false, false, false] rfl rfl (any_of HT_.out (by kernel_rfl)) (fun _ _ _ h => h) (Or.inl ⟨by rfl, ?_⟩) ?_ ?_
           rotate_left
           ·intro w'
            go_simp
            with_reducible rfl
           rotate_left
           ·refine ps_ ?_
            rfl
           refine pure_ (i := 5) (N := some 121) (v := ?_) (a' := ?_) #[true, true, true, true, true, true, false, false, false, false, false, false, false, false, false, false, false, false, false, false, false, false, false, false, false] rfl rfl (any_of HT_.out (by kernel_rfl)) (fun _ _ _ h => h) (Or.inl ⟨by rfl, ?_⟩) ?_ ?_
           rotate_left
           ·intro w'
            go_simp
            with_reducible rfl
           rotate_left
           ·refine ps_ ?_
            rfl
           refine pure_ (i := 6) (N := some 122) (v := undef) (a' := ?_) #[true, true, true, true, true, true, true, false, false, false, false, false, false, false, false, false, false, false, false, false, false, false, false, false, false] rfl rfl (any_of HT_.out (by kernel_rfl)) (fun _ _ _ h => h) (Or.inr ⟨by rfl, rfl⟩) ?_ ?_
           rotate_left
           ·refine ps_ ?_
            rfl
           refine pure_ (i := 7) (N := some 123) (v := undef) (a' := ?_) #[true, true, true, true, true, true, true, true, false, false, false, false, false, false, false, false, false, false, false, false, false, false, false, false, false] rfl rfl (any_of HT_.out (by kernel_rfl)) (fun _ _ _ h => h) (Or.inr ⟨by rfl, rfl⟩) ?_ ?_
           rotate_left
           ·refine ps_ ?_
            rfl
           refine pure_ (i := 8) (N := some 124) (v := undef) (a' := ?_) #[true, true, true, true, true, true, true, true, true, false, false, false, false, false, false, false, false, false, false, false, false, false, false, false, false] rfl rfl (any_of HT_.out (by kernel_rfl)) (fun _ _ _ h => h) (Or.inr ⟨by rfl, rfl⟩) ?_ ?_
           rotate_left
           ·refine ps_ ?_
            rfl
           refine pure_ (i := 9) (N := some 125) (v := undef) (a' := ?_) #[true, true, true, true, true, true, true, true, true, true, false, false, false, false, false, false, false, false, false, false, false, false, false, false, false] rfl rfl (any_of HT_.out (by kernel_rfl)) (fun _ _ _ h => h) (Or.inr ⟨by rfl, rfl⟩) ?_ ?_
           rotate_left
           ·refine ps_ ?_
            rfl
           refine pure_ (i := 10) (N := some 126) (v := undef) (a' := ?_) #[true, true, true, true, true, true, true, true, true, true, true, false, false, false, false, false, false, false, false, false, false, false, false, false, false] rfl rfl (any_of HT_.out (by kernel_rfl)) (fun _ _ _ h => h) (Or.inr ⟨by rfl, rfl⟩) ?_ ?_
           rotate_left
           ·refine ps_ ?_
            rfl
           refine pure_ (i := 11) (N := some 127) (v := ?_) (a' := ?_) #[true, true, true, true, true, true, true, true, true, true, true, true, false, false, false, false, false, false, false, false, false, false, false, false, false] rfl rfl (any_of HT_.out (by kernel_rfl)) (fun _ _ _ h => h) (Or.inl ⟨by rfl, ?_⟩) ?_ ?_
           rotate_left
           ·intro w'
            go_simp
            with_reducible rfl
           rotate_left
           ·refine ps_ ?_
            rfl
           refine pure_ (i := 12) (N := some 128) (v := ?_) (a' := ?_) #[true, true, true, true, true, true, true, true, true, true, true, true, true, false, false, false, false, false, false, false, false, false, false, false, false] rfl rfl (any_of HT_.out (by kernel_rfl)) (fun _ _ _ h => h) (Or.inl ⟨by rfl, ?_⟩) ?_ ?_
           rotate_left
           ·intro w'
            go_simp
            with_reducible rfl
           rotate_left
           ·refine ps_ ?_
            rfl
           refine pure_ (i := 13) (N := some 129) (v := undef) (a' := ?_) #[true, true, true, true, true, true, true, true, true, true, true, true, true, true, false, false, false, false, false, false, false, false, false, false, false] rfl rfl (any_of HT_.out (by kernel_rfl)) (fun _ _ _ h => h) (Or.inr ⟨by rfl, rfl⟩) ?_ ?_
           rotate_left
           ·refine ps_ ?_
            rfl
           refine pure_ (i := 14) (N := some 130) (v := undef) (a' := ?_) #[true, true, true, true, true, true, true, true, true, true, true, true, true, true, true, false, false, false, false, false, false, false, false, false, false] rfl rfl (any_of HT_.out (by kernel_rfl)) (fun _ _ _ h => h) (Or.inr ⟨by rfl, rfl⟩) ?_ ?_
           rotate_left
           ·refine ps_ ?_
            rfl
           refine pure_ (i := 15) (N := some 131) (v := undef) (a' := ?_) #[true, true, true, true, true, true, true, true, true, true, true, true, true, true, true, true, false, false, false, false, false, false, false, false, false] rfl rfl (any_of HT_.out (by kernel_rfl)) (fun _ _ _ h => h) (Or.inr ⟨by rfl, rfl⟩) ?_ ?_
           rotate_left
           ·refine ps_ ?_
            rfl
           refine pure_ (i := 16) (N := some 132) (v := undef) (a' := ?_) #[true, true, true, true, true, true, true, true, true, true, true, true, true, true, true, true, true, false, false, false, false, false, false, false, false] rfl rfl (any_of HT_.out (by kernel_rfl)) (fun _ _ _ h => h) (Or.inr ⟨by rfl, rfl⟩) ?_ ?_
           rotate_left
           ·refine ps_ ?_
            rfl
           refine pure_ (i := 17) (N := some 133) (v := undef) (a' := ?_) #[true, true, true, true, true, true, true, true, true, true, true, true, true, true, true, true, true, true, false, false, false, false, false, false, false] rfl rfl (any_of HT_.out (by kernel_rfl)) (fun _ _ _ h => h) (Or.inr ⟨by rfl, rfl⟩) ?_ ?_
           rotate_left
           ·refine ps_ ?_
            rfl
           refine pure_ (i := 18) (N := some 134) (v := undef) (a' := ?_) #[true, true, true, true, true, true, true, true, true, true, true, true, true, true, true, true, true, true, true, false, false, false, false, false, false] rfl rfl (any_of HT_.out (by kernel_rfl)) (fun _ _ _ h => h) (Or.inr ⟨by rfl, rfl⟩) ?_ ?_
           rotate_left
           ·refine ps_ ?_
            rfl
           refine pure_ (i := 19) (N := some 135) (v := undef) (a' := ?_) #[true, true, true, true, true, true, true, true, true, true, true, true, true, true, true, true, true, true, true, true, false, false, false, false, false] rfl rfl (any_of HT_.out (by kernel_rfl)) (fun _ _ _ h => h) (Or.inr ⟨by rfl, rfl⟩) ?_ ?_
           rotate_left
           ·refine ps_ ?_
            rfl
           refine pure_ (i := 20) (N := some 136) (v := undef) (a' := ?_) #[true, true, true, true, true, true, true, true, true, true, true, true, true, true, true, true, true, true, true, true, true, false, false, false, false] rfl rfl (any_of HT_.out (by kernel_rfl)) (fun _ _ _ h => h) (Or.inr ⟨by rfl, rfl⟩) ?_ ?_
           rotate_left
           ·refine ps_ ?_
            rfl
           refine pure_ (i := 21) (N := some 137) (v := undef) (a' := ?_) #[true, true, true, true, true, true, true, true, true, true, true, true, true, true, true, true, true, true, true, true, true, true, false, false, false] rfl rfl (any_of HT_.out (by kernel_rfl)) (fun _ _ _ h => h) (Or.inr ⟨by rfl, rfl⟩) ?_ ?_
           rotate_left
           ·refine ps_ ?_
            rfl
           refine pure_ (i := 22) (N := some 138) (v := undef) (a' := ?_) #[true, true, true, true, true, true, true, true, true, true, true, true, true, true, true, true, true, true, true, true, true, true, true, false, false] rfl rfl (any_of HT_.out (by kernel_rfl)) (fun _ _ _ h => h) (Or.inr ⟨by rfl, rfl⟩) ?_ ?_
           rotate_left
           ·refine ps_ ?_
            rfl
           refine pure_ (i := 23) (N := some 139) (v := undef) (a' := ?_) #[true, true, true, true, true, true, true, true, true, true, true, true, true, true, true, true, true, true, true, true, true, true, true, true, false] rfl rfl (any_of HT_.out (by kernel_rfl)) (fun _ _ _ h => h) (Or.inr ⟨by rfl, rfl⟩) ?_ ?_
           rotate_left
           ·refine ps_ ?_
            rfl
           refine pure_ (i := 24) (N := some 140) (v := ?_) (a' := ?_) #[true, true, true, true, true, true, true, true, true, true, true, true, true, true, true, true, true, true, true, true, true, true, true, true, true] rfl rfl (any_of HT_.out (by kernel_rfl)) (fun _ _ _ h => h) (Or.inl ⟨by rfl, ?_⟩) ?_ ?_
           rotate_left
           ·intro w'
            go_simp
            with_reducible rfl
           rotate_left
           ·refine ps_ ?_
            rfl
           refine done_ (done_of HT_.out (by kernel_rfl)) ?_
           try go_wp2
           go_meet
           case rel => exact ⟨_, (false), rs_, H', ⟨by have := HJ10.out; have := HK2.out; exact om_⟩, ⟨by refine ru ?_; exact HO_476003.out⟩, ⟨by refine bu ?_; exact BK475.out⟩, ⟨tb⟩⟩
        case rest =>
         clear HC43
         try clear p2
         try clear c4
         try clear p4
         try clear q4
         try clear hx4
         try clear c45
         try clear c45b0
         try clear c45b1
         try clear c46
         try clear c46b0
         try clear c46b1
         try clear c47
         try clear p49
         try clear q49
         try clear hx49
         try clear hx494_0
         try clear hx495_0
         try clear p494
         try clear p495
         try clear q494
         try clear q495
         obtain ⟨kq, x140_42, rfl, HA, HJ42, HO_476003, BK475, HB⟩ := hcut
         cases kq with
         | zero => exact absurd HA.out (by simp [laws_FnCommon.j2])
         | succ kj42 =>
          have H := HA.out
          clear HA
          simp only [laws_FnCommon.j2] at H
          by_cases c56 : x140_42 = true
          ·subst c56
           rw [if_pos rfl] at H; try dsimp only at H
           exact absurd (H.trans (congrArg some hlaw)) (by decide)
          ·replace c56 := Bool.eq_false_iff.mpr c56
           subst c56
           have H1 : ((impl_FaultVoltages.f kj42 t469 t470 t471 t472 t476 1 (⟨1056964608, 0⟩ : Cx) 0).bind fun bt496 => ((impl_PartsOf.f kj42 t469 t470 t471).bind fun bt501 => ((impl_PhasesOf.f kj42 (⟨0, 0⟩ : Cx) bt501.2.1 (⟨0, 0⟩ : Cx)).bind fun bt504 => ((impl_PathImpedance.f kj42 t469 t470 t471 t472 t476).bind fun bt508 => ((impl_SequenceOf.f bt508.1 bt508.2.1).bind fun bt511 => ((impl_PartsOf.f kj42 t469 t470 t471).bind fun bt513 => ((impl_FaultParts.f kj42 bt513.2.1 bt511.1 bt511.2 1 (⟨1056964608, 0⟩ : Cx)).bind fun bt516 => ((impl_FaultCurrents.f kj42 t469 t470 t471 t472 t476 1 (⟨1056964608, 0⟩ : Cx)).bind fun bt521 => (if bt496.2.2.2 = true then (if bt508.2.2 = true then (if bt516.2.2.2 = true then (if bt521.2.2.2 = true then ((laws_r8Apart.f bt496.1 bt504.1).bind fun t526 => (if (flt .f64 t526 4562254508917369340) = true then ((laws_r8Apart.f bt496.2.1 bt504.2.1).bind fun t527 => (if (flt .f64 t527 4562254508917369340) = true then ((laws_r8Apart.f bt496.2.2.1 bt504.2.2).bind fun t528 => (if (flt .f64 t528 4562254508917369340) = true then ((impl_PhasesOf.f kj42 bt516.1 bt516.2.1 bt516.2.2.1).bind fun bt529 => ((impl_SamePhases.f kj42 bt521.1 bt521.2.1 bt521.2.2.1 bt529.1 bt529.2.1 bt529.2.2).bind fun t532 => (if t532 = true then ((impl_SameParts.f kj42 bt516.1 bt516.2.1 bt516.2.2.1 bt516.1 bt516.2.1 bt516.2.2.1).bind fun t533 => (some t533)) else (some false)))) else (some false))) else (some false))) else (some false))) else (some false)) else (some false)) else (some false)) else (some false)))))))))) = some r := by rw [if_neg (show ¬ (false = true) by decide)] at H; exact H
           clear H
           have H := H1
           clear H1
           replace H := Option.bind_eq_some_iff.mp H
           obtain ⟨⟨t496, t497, t498, t499⟩, A570, H⟩ := H
           try dsimp only at H
           have A57 := Aside0.mk A570
           clear A570
           replace H := Option.bind_eq_some_iff.mp H
           obtain ⟨⟨t501, t502, t503⟩, A580, H⟩ := H
           try dsimp only at H
           have A58 := Aside0.mk A580
           clear A580
           replace H := Option.bind_eq_some_iff.mp H
           obtain ⟨⟨t504, t505, t506⟩, A590, H⟩ := H
           try dsimp only at H
           have A59 := Aside0.mk A590
           clear A590
           replace H := Option.bind_eq_some_iff.mp H
           obtain ⟨⟨t508, t509, t510⟩, A600, H⟩ := H
           try dsimp only at H
           have A60 := Aside0.mk A600
           clear A600
           replace H := Option.bind_eq_some_iff.mp H
           obtain ⟨⟨t511, t512⟩, A610, H⟩ := H
           try dsimp only at H
           have A61 := Aside0.mk A610
           clear A610
           replace H := Option.bind_eq_some_iff.mp H
           obtain ⟨⟨t513, t514, t515⟩, A620, H⟩ := H
           try dsimp only at H
           have A62 := Aside0.mk A620
           clear A620
           replace H := Option.bind_eq_some_iff.mp H
           obtain ⟨⟨t516, t517, t518, t519⟩, A630, H⟩ := H
           try dsimp only at H
           have A63 := Aside0.mk A630
           clear A630
           replace H := Option.bind_eq_some_iff.mp H
           obtain ⟨⟨t521, t522, t523, t524⟩, A640, H⟩ := H
           try dsimp only at H
           have A64 := Aside0.mk A640
           clear A640
           by_cases c65 : t499 = true
           ·subst c65
            rw [if_pos rfl] at H; try dsimp only at H
            by_cases c66 : t510 = true
            ·subst c66
             rw [if_pos rfl] at H; try dsimp only at H
             by_cases c67 : t519 = true
             ·subst c67
              rw [if_pos rfl] at H; try dsimp only at H
              by_cases c68 : t524 = true
              ·subst c68
               rw [if_pos rfl] at H; try dsimp only at H
               replace H := Option.bind_eq_some_iff.mp H
               obtain ⟨t526, A690, H⟩ := H
               try dsimp only at H
               have A69 := Aside0.mk A690
               clear A690
               by_cases c70 : (flt .f64 t526 4562254508917369340) = true
               ·rw [if_pos c70] at H
                have c70b0 : (flt .f64 t526 4562254508917369340) = true := c70
                clear c70
                replace H := Option.bind_eq_some_iff.mp H
                obtain ⟨t527, A710, H⟩ := H
                try dsimp only at H
                have A71 := Aside0.mk A710
                clear A710
                by_cases c72 : (flt .f64 t527 4562254508917369340) = true
                ·rw [if_pos c72] at H
                 have c72b0 : (flt .f64 t527 4562254508917369340) = true := c72
                 clear c72
                 replace H := Option.bind_eq_some_iff.mp H
                 obtain ⟨t528, A730, H⟩ := H
                 try dsimp only at H
                 have A73 := Aside0.mk A730
                 clear A730
                 by_cases c74 : (flt .f64 t528 4562254508917369340) = true
                 ·rw [if_pos c74] at H
                  have c74b0 : (flt .f64 t528 4562254508917369340) = true := c74
                  clear c74
                  replace H := Option.bind_eq_some_iff.mp H
                  obtain ⟨⟨t529, t530, t531⟩, A750, H⟩ := H
                  try dsimp only at H
                  have A75 := Aside0.mk A750
                  clear A750
                  replace H := Option.bind_eq_some_iff.mp H
                  obtain ⟨t532, A760, H⟩ := H
                  try dsimp only at H
                  have A76 := Aside0.mk A760
                  clear A760
                  by_cases c77 : t532 = true
                  ·subst c77
                   rw [if_pos rfl] at H; try dsimp only at H
                   replace H := Option.bind_eq_some_iff.mp H
                   obtain ⟨t533, A780, H⟩ := H
                   try dsimp only at H
                   have A78 := Aside0.mk A780
                   clear A780
                   as_aux_lemma =>
                    obtain rfl := Option.some.inj H
                    have hcz79_0 : wc.cell? ⟨gb475, 0, none⟩ = some (.complex .f32 t469.re t469.im) := (blk_cell BK475.out 0).trans rfl
                    have hcz79_1 : wc.cell? ⟨gb475, 1, none⟩ = some (.complex .f32 t470.re t470.im) := (blk_cell BK475.out 1).trans rfl
                    have hcz79_2 : wc.cell? ⟨gb475, 2, none⟩ = some (.complex .f32 t471.re t471.im) := (blk_cell BK475.out 2).trans rfl
                    have hcz79_3 : wc.cell? ⟨gb475, 3, none⟩ = some (.slice Ao15 t472.length co15) := (blk_cell BK475.out 3).trans rfl
                    have hfz79_0 := blk_frozen BK475.out 0
                    have hfz79_1 := blk_frozen BK475.out 1
                    have hfz79_2 := blk_frozen BK475.out 2
                    have hfz79_3 := blk_frozen BK475.out 3
                    try go_wp2_with (first | ((with_reducible refine gate_callee (f := 43) rfl ?_); refine gx_ (some 144) Try.func43 #[.agg #[.complex .f32 t469.re t469.im, .complex .f32 t470.re t470.im, .complex .f32 t471.re t471.im, .slice Ao15 t472.length co15], .int .i64 t476, .int .i64 1, .complex .f32 1056964608 0, .int .i64 0] ?_; (with_reducible refine (impl_FaultVoltages.calls kj42 t469 t470 t471 _ _ t472 t476 1 (⟨1056964608, 0⟩ : Cx) 0 t496 t497 t498 true _ ?side1 ?side2 A57.out).mono ?_); (case side1 => exact cu ((Kd.R_reads' HO_476003.out).2.2)); (case side2 => exact (Kd.R_reads' HO_476003.out).2.1); rintro e w80 ⟨rfl, hb⟩; refine ⟨_, rfl, ?_⟩; have n0_ := Aside0.mk (Kd.R_below (ru HO_476003.out) hb); have n1_ := Aside0.mk (blk_below (g := gb475) (o := .cells #[.complex .f32 t469.re t469.im, .complex .f32 t470.re t470.im, .complex .f32 t471.re t471.im, .slice Ao15 t472.length co15] 42 (0, 0)) (bu BK475.out) hb); have n2_ := Aside0.mk (below_step tb hb); clear HO_476003; clear BK475; clear HB; have HO_476003 := n0_; have BK475 := n1_; have HB := n2_; clear n0_ n1_ n2_; (try clear hb); (try clear hb2); (try clear hk); (try clear hi)) | ((with_reducible refine gate_dst (N := 16) rfl ?_); (try (refine gate_guard (by rfl) ?_; dsimp only)); refine box_event ?hg (N := 16) ?hd (cs := #[.complex .f32 0 0, .complex .f32 0 0, .complex .f32 0 0]) (t := 39) ?hr ?_; (case hd => rfl); (case hg => rfl); (case hr => first | (go_simp; done) | (go_simp; rfl)); intro gb500 hg w81 hbox hb; have n0_ := Aside0.mk (Kd.R_below (ru HO_476003.out) hb); have n1_ := Aside0.mk (blk_below (g := gb475) (o := .cells #[.complex .f32 t469.re t469.im, .complex .f32 t470.re t470.im, .complex .f32 t471.re t471.im, .slice Ao15 t472.length co15] 42 (0, 0)) (bu BK475.out) hb); have n2_ := Aside0.mk (below_step tb hb); have n3_ := Aside0.mk (hbox); have n4_ := Aside0.mk ((by rw [hg]; exact (below_size tb) : w.heap.size ≤ gb500)); have n5_ := Aside0.mk ((by rw [hg]; exact (below_size tb) : w.heap.size ≤ gb500)); have n6_ := Aside0.mk ((by rw [hg]; exact Nat.ne_of_lt (blk_lt (g := gb475) (o := .cells #[.complex .f32 t469.re t469.im, .complex .f32 t470.re t470.im, .complex .f32 t471.re t471.im, .slice Ao15 t472.length co15] 42 (0, 0)) (bu BK475.out)) : gb475 ≠ gb500)); have n7_ := Aside0.mk ((by rw [hg]; exact Nat.ne_of_gt (blk_lt (g := gb475) (o := .cells #[.complex .f32 t469.re t469.im, .complex .f32 t470.re t470.im, .complex .f32 t471.re t471.im, .slice Ao15 t472.length co15] 42 (0, 0)) (bu BK475.out)) : gb500 ≠ gb475)); clear HO_476003; clear BK475; clear HB; have HO_476003 := n0_; have BK475 := n1_; have HB := n2_; have BK500 := n3_; have GW500 := n4_; have GE500 := n5_; have NB475_500 := n6_; have NB500_475 := n7_; clear n0_ n1_ n2_ n3_ n4_ n5_ n6_ n7_; clear hb hbox hg; have hnb82 := NB500_475.out; have hnc82 := NB475_500.out; have hcz83_0 : w81.cell? ⟨gb500, 0, none⟩ = some (.complex .f32 0 0) := (blk_cell BK500.out 0).trans rfl; have hcz83_1 : w81.cell? ⟨gb500, 1, none⟩ = some (.complex .f32 0 0) := (blk_cell BK500.out 1).trans rfl; have hcz83_2 : w81.cell? ⟨gb500, 2, none⟩ = some (.complex .f32 0 0) := (blk_cell BK500.out 2).trans rfl; have hfz83_0 := blk_frozen BK500.out 0; have hfz83_1 := blk_frozen BK500.out 1; have hfz83_2 := blk_frozen BK500.out 2; have hcz84_0 : w81.cell? ⟨gb475, 0, none⟩ = some (.complex .f32 t469.re t469.im) := (blk_cell BK475.out 0).trans rfl; have hcz84_1 : w81.cell? ⟨gb475, 1, none⟩ = some (.complex .f32 t470.re t470.im) := (blk_cell BK475.out 1).trans rfl; have hcz84_2 : w81.cell? ⟨gb475, 2, none⟩ = some (.complex .f32 t471.re t471.im) := (blk_cell BK475.out 2).trans rfl; have hcz84_3 : w81.cell? ⟨gb475, 3, none⟩ = some (.slice Ao15 t472.length co15) := (blk_cell BK475.out 3).trans rfl; have hfz84_0 := blk_frozen BK475.out 0; have hfz84_1 := blk_frozen BK475.out 1; have hfz84_2 := blk_frozen BK475.out 2; have hfz84_3 := blk_frozen BK475.out 3) | ((with_reducible refine gate_callee (f := 45) rfl ?_); refine gx_ (some 149) Try.func45 #[.agg #[.complex .f32 t469.re t469.im, .complex .f32 t470.re t470.im, .complex .f32 t471.re t471.im]] ?_; (with_reducible refine (impl_PartsOf.calls kj42 t469 t470 t471 t501 t502 t503 _ A58.out).mono ?_); rintro e w85 ⟨rfl, hb⟩; refine ⟨_, rfl, ?_⟩; have n0_ := Aside0.mk (Kd.R_below (by refine ru ?_; exact (Kd.R_mono (Kd.R_far (p := ⟨gb500, 2, none⟩) (Kd.R_far (p := ⟨gb500, 1, none⟩) (Kd.R_far (p := ⟨gb500, 0, none⟩) (Kd.R_types HO_476003.out BK500.out (by decide)) (fun _ hk => hk.2) (.complex .f32 t496.re t496.im)) (fun _ hk => hk.2) (.complex .f32 t497.re t497.im)) (fun _ hk => hk.2) (.complex .f32 t498.re t498.im)) (fun _ h_ => h_.1))) hb); have n1_ := Aside0.mk (blk_below (g := gb475) (o := .cells #[.complex .f32 t469.re t469.im, .complex .f32 t470.re t470.im, .complex .f32 t471.re t471.im, .slice Ao15 t472.length co15] 42 (0, 0)) (bv BK475.out) hb); have n2_ := Aside0.mk (blk_below (g := gb500) (o := .cells #[.complex .f32 t496.re t496.im, .complex .f32 t497.re t497.im, .complex .f32 t498.re t498.im] 39 (0, 0)) (by refine bu ?_; refine blk_put (cs := #[.complex .f32 t496.re t496.im, .complex .f32 t497.re t497.im, .complex .f32 0 0]) ?_ 2 _ rfl; refine bu ?_; refine blk_put (cs := #[.complex .f32 t496.re t496.im, .complex .f32 0 0, .complex .f32 0 0]) ?_ 1 _ rfl; refine bu ?_; refine blk_put (cs := #[.complex .f32 0 0, .complex .f32 0 0, .complex .f32 0 0]) ?_ 0 _ rfl; refine bu ?_; exact BK500.out) hb); have n3_ := Aside0.mk (below_step tb hb); clear HO_476003; clear BK475; clear BK500; clear HB; have HO_476003 := n0_; have BK475 := n1_; have BK500 := n2_; have HB := n3_; clear n0_ n1_ n2_ n3_; (try clear hb); (try clear hb2); (try clear hk); (try clear hi)) | ((with_reducible refine gate_callee (f := 44) rfl ?_); refine gx_ (some 152) Try.func44 #[.agg #[.complex .f32 0 0, .complex .f32 t502.re t502.im, .complex .f32 0 0]] ?_; (with_reducible refine (impl_PhasesOf.calls kj42 (⟨0, 0⟩ : Cx) t502 (⟨0, 0⟩ : Cx) t504 t505 t506 _ A59.out).mono ?_); rintro e w86 ⟨rfl, hb⟩; refine ⟨_, rfl, ?_⟩; have n0_ := Aside0.mk (Kd.R_below (ru HO_476003.out) hb); have n1_ := Aside0.mk (blk_below (g := gb475) (o := .cells #[.complex .f32 t469.re t469.im, .complex .f32 t470.re t470.im, .complex .f32 t471.re t471.im, .slice Ao15 t472.length co15] 42 (0, 0)) (bu BK475.out) hb); have n2_ := Aside0.mk (blk_below (g := gb500) (o := .cells #[.complex .f32 t496.re t496.im, .complex .f32 t497.re t497.im, .complex .f32 t498.re t498.im] 39 (0, 0)) (bu BK500.out) hb); have n3_ := Aside0.mk (below_step tb hb); clear HO_476003; clear BK475; clear BK500; clear HB; have HO_476003 := n0_; have BK475 := n1_; have BK500 := n2_; have HB := n3_; clear n0_ n1_ n2_ n3_; (try clear hb); (try clear hb2); (try clear hk); (try clear hi)) | ((with_reducible refine gate_dst (N := 18) rfl ?_); (try (refine gate_guard (by rfl) ?_; dsimp only)); refine box_event ?hg (N := 18) ?hd (cs := #[.complex .f32 0 0, .complex .f32 0 0, .complex .f32 0 0]) (t := 39) ?hr ?_; (case hd => rfl); (case hg => rfl); (case hr => first | (go_simp; done) | (go_simp; rfl)); intro gb507 hg w87 hbox hb; have n0_ := Aside0.mk (Kd.R_below (ru HO_476003.out) hb); have n1_ := Aside0.mk (blk_below (g := gb475) (o := .cells #[.complex .f32 t469.re t469.im, .complex .f32 t470.re t470.im, .complex .f32 t471.re t471.im, .slice Ao15 t472.length co15] 42 (0, 0)) (bu BK475.out) hb); have n2_ := Aside0.mk (blk_below (g := gb500) (o := .cells #[.complex .f32 t496.re t496.im, .complex .f32 t497.re t497.im, .complex .f32 t498.re t498.im] 39 (0, 0)) (bu BK500.out) hb); have n3_ := Aside0.mk (below_step tb hb); have n4_ := Aside0.mk (hbox); have n5_ := Aside0.mk ((by rw [hg]; exact (below_size tb) : w.heap.size ≤ gb507)); have n6_ := Aside0.mk ((by rw [hg]; exact (below_size tb) : w.heap.size ≤ gb507)); have n7_ := Aside0.mk ((by rw [hg]; exact Nat.ne_of_lt (blk_lt (g := gb475) (o := .cells #[.complex .f32 t469.re t469.im, .complex .f32 t470.re t470.im, .complex .f32 t471.re t471.im, .slice Ao15 t472.length co15] 42 (0, 0)) (bu BK475.out)) : gb475 ≠ gb507)); have n8_ := Aside0.mk ((by rw [hg]; exact Nat.ne_of_gt (blk_lt (g := gb475) (o := .cells #[.complex .f32 t469.re t469.im, .complex .f32 t470.re t470.im, .complex .f32 t471.re t471.im, .slice Ao15 t472.length co15] 42 (0, 0)) (bu BK475.out)) : gb507 ≠ gb475)); have n9_ := Aside0.mk ((by rw [hg]; exact Nat.ne_of_lt (blk_lt (g := gb500) (o := .cells #[.complex .f32 t496.re t496.im, .complex .f32 t497.re t497.im, .complex .f32 t498.re t498.im] 39 (0, 0)) (bu BK500.out)) : gb500 ≠ gb507)); have n10_ := Aside0.mk ((by rw [hg]; exact Nat.ne_of_gt (blk_lt (g := gb500) (o := .cells #[.complex .f32 t496.re t496.im, .complex .f32 t497.re t497.im, .complex .f32 t498.re t498.im] 39 (0, 0)) (bu BK500.out)) : gb507 ≠ gb500)); clear HO_476003; clear BK475; clear BK500; clear HB; have HO_476003 := n0_; have BK475 := n1_; have BK500 := n2_; have HB := n3_; have BK507 := n4_; have GW507 := n5_; have GE507 := n6_; have NB475_507 := n7_; have NB507_475 := n8_; have NB500_507 := n9_; have NB507_500 := n10_; clear n0_ n1_ n2_ n3_ n4_ n5_ n6_ n7_ n8_ n9_ n10_; clear hb hbox hg; have hnb88 := NB507_475.out; have hnc88 := NB475_507.out; have hnb89 := NB507_500.out; have hnc89 := NB500_507.out; have hcz90_0 : w87.cell? ⟨gb507, 0, none⟩ = some (.complex .f32 0 0) := (blk_cell BK507.out 0).trans rfl; have hcz90_1 : w87.cell? ⟨gb507, 1, none⟩ = some (.complex .f32 0 0) := (blk_cell BK507.out 1).trans rfl; have hcz90_2 : w87.cell? ⟨gb507, 2, none⟩ = some (.complex .f32 0 0) := (blk_cell BK507.out 2).trans rfl; have hfz90_0 := blk_frozen BK507.out 0; have hfz90_1 := blk_frozen BK507.out 1; have hfz90_2 := blk_frozen BK507.out 2; have hcz91_0 : w87.cell? ⟨gb475, 0, none⟩ = some (.complex .f32 t469.re t469.im) := (blk_cell BK475.out 0).trans rfl; have hcz91_1 : w87.cell? ⟨gb475, 1, none⟩ = some (.complex .f32 t470.re t470.im) := (blk_cell BK475.out 1).trans rfl; have hcz91_2 : w87.cell? ⟨gb475, 2, none⟩ = some (.complex .f32 t471.re t471.im) := (blk_cell BK475.out 2).trans rfl; have hcz91_3 : w87.cell? ⟨gb475, 3, none⟩ = some (.slice Ao15 t472.length co15) := (blk_cell BK475.out 3).trans rfl; have hfz91_0 := blk_frozen BK475.out 0; have hfz91_1 := blk_frozen BK475.out 1; have hfz91_2 := blk_frozen BK475.out 2; have hfz91_3 := blk_frozen BK475.out 3) | ((with_reducible refine gate_callee (f := 46) rfl ?_); refine gx_ (some 156) Try.func46 #[.agg #[.complex .f32 t469.re t469.im, .complex .f32 t470.re t470.im, .complex .f32 t471.re t471.im, .slice Ao15 t472.length co15], .int .i64 t476] ?_; (with_reducible refine (impl_PathImpedance.calls kj42 t469 t470 t471 _ _ t472 t476 t508 t509 true _ ?side1 ?side2 A60.out).mono ?_); (case side1 => refine (Kd.R_reads' (e := 66) (base := w.heap.size) (ok := fun k_ => True) (n := t472.length) (c := co15) ?_).2.2; exact (by refine ru ?_; exact (Kd.R_mono (Kd.R_far (p := ⟨gb507, 2, none⟩) (Kd.R_far (p := ⟨gb507, 1, none⟩) (Kd.R_far (p := ⟨gb507, 0, none⟩) (Kd.R_types HO_476003.out BK507.out (by decide)) (fun _ hk => hk.2) (.complex .f32 t504.re t504.im)) (fun _ hk => hk.2) (.complex .f32 t505.re t505.im)) (fun _ hk => hk.2) (.complex .f32 t506.re t506.im)) (fun _ h_ => h_.1)))); (case side2 => exact (Kd.R_reads' HO_476003.out).2.1); rintro e w92 ⟨rfl, hb⟩; refine ⟨_, rfl, ?_⟩; have n0_ := Aside0.mk (Kd.R_below (by refine ru ?_; exact (Kd.R_mono (Kd.R_far (p := ⟨gb507, 2, none⟩) (Kd.R_far (p := ⟨gb507, 1, none⟩) (Kd.R_far (p := ⟨gb507, 0, none⟩) (Kd.R_types HO_476003.out BK507.out (by decide)) (fun _ hk => hk.2) (.complex .f32 t504.re t504.im)) (fun _ hk => hk.2) (.complex .f32 t505.re t505.im)) (fun _ hk => hk.2) (.complex .f32 t506.re t506.im)) (fun _ h_ => h_.1))) hb); have n1_ := Aside0.mk (blk_below (g := gb475) (o := .cells #[.complex .f32 t469.re t469.im, .complex .f32 t470.re t470.im, .complex .f32 t471.re t471.im, .slice Ao15 t472.length co15] 42 (0, 0)) (bv BK475.out) hb); have n2_ := Aside0.mk (blk_below (g := gb500) (o := .cells #[.complex .f32 t496.re t496.im, .complex .f32 t497.re t497.im, .complex .f32 t498.re t498.im] 39 (0, 0)) (bv BK500.out) hb); have n3_ := Aside0.mk (blk_below (g := gb507) (o := .cells #[.complex .f32 t504.re t504.im, .complex .f32 t505.re t505.im, .complex .f32 t506.re t506.im] 39 (0, 0)) (by refine bu ?_; refine blk_put (cs := #[.complex .f32 t504.re t504.im, .complex .f32 t505.re t505.im, .complex .f32 0 0]) ?_ 2 _ rfl; refine bu ?_; refine blk_put (cs := #[.complex .f32 t504.re t504.im, .complex .f32 0 0, .complex .f32 0 0]) ?_ 1 _ rfl; refine bu ?_; refine blk_put (cs := #[.complex .f32 0 0, .complex .f32 0 0, .complex .f32 0 0]) ?_ 0 _ rfl; refine bu ?_; exact BK507.out) hb); have n4_ := Aside0.mk (below_step tb hb); clear HO_476003; clear BK475; clear BK500; clear BK507; clear HB; have HO_476003 := n0_; have BK475 := n1_; have BK500 := n2_; have BK507 := n3_; have HB := n4_; clear n0_ n1_ n2_ n3_ n4_; (try clear hb); (try clear hb2); (try clear hk); (try clear hi)) | ((with_reducible refine gate_callee (f := 47) rfl ?_); refine gx_ (some 163) Try.func47 #[.complex .f32 t508.re t508.im, .complex .f32 t509.re t509.im] ?_; (with_reducible refine (impl_SequenceOf.calls t508 t509 t511 t512 _ A61.out).mono ?_); rintro e w' ⟨rfl, ⟨nd, rfl⟩⟩; refine ⟨_, rfl, ?_⟩; (try (rw [drewN_self w92]; generalize hq_ : World.drewN w92 _ = w92; have n0_ : Aside0 (Kd.R k66 66 w92 w.heap.size (fun _ => True) (.slice Ao15 t472.length co15) t472) := ⟨by rw [← hq_]; exact (ru HO_476003.out)⟩; have n1_ : Aside0 (w92.heap[gb475]? = some (.cells #[.complex .f32 t469.re t469.im, .complex .f32 t470.re t470.im, .complex .f32 t471.re t471.im, .slice Ao15 t472.length co15] 42 (0, 0))) := ⟨by rw [← hq_]; exact (bu BK475.out)⟩; have n2_ : Aside0 (w92.heap[gb500]? = some (.cells #[.complex .f32 t496.re t496.im, .complex .f32 t497.re t497.im, .complex .f32 t498.re t498.im] 39 (0, 0))) := ⟨by rw [← hq_]; exact (bu BK500.out)⟩; have n3_ : Aside0 (w92.heap[gb507]? = some (.cells #[.complex .f32 t504.re t504.im, .complex .f32 t505.re t505.im, .complex .f32 t506.re t506.im] 39 (0, 0))) := ⟨by rw [← hq_]; exact (bu BK507.out)⟩; have n4_ : Aside0 (Below w.heap.size w w92) := ⟨by rw [← hq_]; exact tb⟩; clear HO_476003 BK475 BK500 BK507 HB hq_; have HO_476003 := n0_; have BK475 := n1_; have BK500 := n2_; have BK507 := n3_; have HB := n4_; clear n0_ n1_ n2_ n3_ n4_)); have hcz93_0 : w92.cell? ⟨gb475, 0, none⟩ = some (.complex .f32 t469.re t469.im) := (blk_cell BK475.out 0).trans rfl; have hcz93_1 : w92.cell? ⟨gb475, 1, none⟩ = some (.complex .f32 t470.re t470.im) := (blk_cell BK475.out 1).trans rfl; have hcz93_2 : w92.cell? ⟨gb475, 2, none⟩ = some (.complex .f32 t471.re t471.im) := (blk_cell BK475.out 2).trans rfl; have hcz93_3 : w92.cell? ⟨gb475, 3, none⟩ = some (.slice Ao15 t472.length co15) := (blk_cell BK475.out 3).trans rfl; have hfz93_0 := blk_frozen BK475.out 0; have hfz93_1 := blk_frozen BK475.out 1; have hfz93_2 := blk_frozen BK475.out 2; have hfz93_3 := blk_frozen BK475.out 3) | ((with_reducible refine gate_callee (f := 45) rfl ?_); refine gx_ (some 169) Try.func45 #[.agg #[.complex .f32 t469.re t469.im, .complex .f32 t470.re t470.im, .complex .f32 t471.re t471.im]] ?_; (with_reducible refine (impl_PartsOf.calls kj42 t469 t470 t471 t513 t514 t515 _ A62.out).mono ?_); rintro e w94 ⟨rfl, hb⟩; refine ⟨_, rfl, ?_⟩; have n0_ := Aside0.mk (Kd.R_below (ru HO_476003.out) hb); have n1_ := Aside0.mk (blk_below (g := gb475) (o := .cells #[.complex .f32 t469.re t469.im, .complex .f32 t470.re t470.im, .complex .f32 t471.re t471.im, .slice Ao15 t472.length co15] 42 (0, 0)) (bu BK475.out) hb); have n2_ := Aside0.mk (blk_below (g := gb500) (o := .cells #[.complex .f32 t496.re t496.im, .complex .f32 t497.re t497.im, .complex .f32 t498.re t498.im] 39 (0, 0)) (bu BK500.out) hb); have n3_ := Aside0.mk (blk_below (g := gb507) (o := .cells #[.complex .f32 t504.re t504.im, .complex .f32 t505.re t505.im, .complex .f32 t506.re t506.im] 39 (0, 0)) (bu BK507.out) hb); have n4_ := Aside0.mk (below_step tb hb); clear HO_476003; clear BK475; clear BK500; clear BK507; clear HB; have HO_476003 := n0_; have BK475 := n1_; have BK500 := n2_; have BK507 := n3_; have HB := n4_; clear n0_ n1_ n2_ n3_ n4_; (try clear hb); (try clear hb2); (try clear hk); (try clear hi)) | ((with_reducible refine gate_callee (f := 48) rfl ?_); refine gx_ (some 173) Try.func48 #[.complex .f32 t514.re t514.im, .complex .f32 t511.re t511.im, .complex .f32 t512.re t512.im, .int .i64 1, .complex .f32 1056964608 0] ?_; (with_reducible refine (impl_FaultParts.calls kj42 t514 t511 t512 1 (⟨1056964608, 0⟩ : Cx) t516 t517 t518 true _ A63.out).mono ?_); rintro e w95 ⟨rfl, hb⟩; refine ⟨_, rfl, ?_⟩; have n0_ := Aside0.mk (Kd.R_below (ru HO_476003.out) hb); have n1_ := Aside0.mk (blk_below (g := gb475) (o := .cells #[.complex .f32 t469.re t469.im, .complex .f32 t470.re t470.im, .complex .f32 t471.re t471.im, .slice Ao15 t472.length co15] 42 (0, 0)) (bu BK475.out) hb); have n2_ := Aside0.mk (blk_below (g := gb500) (o := .cells #[.complex .f32 t496.re t496.im, .complex .f32 t497.re t497.im, .complex .f32 t498.re t498.im] 39 (0, 0)) (bu BK500.out) hb); have n3_ := Aside0.mk (blk_below (g := gb507) (o := .cells #[.complex .f32 t504.re t504.im, .complex .f32 t505.re t505.im, .complex .f32 t506.re t506.im] 39 (0, 0)) (bu BK507.out) hb); have n4_ := Aside0.mk (below_step tb hb); clear HO_476003; clear BK475; clear BK500; clear BK507; clear HB; have HO_476003 := n0_; have BK475 := n1_; have BK500 := n2_; have BK507 := n3_; have HB := n4_; clear n0_ n1_ n2_ n3_ n4_; (try clear hb); (try clear hb2); (try clear hk); (try clear hi)) | ((with_reducible refine gate_dst (N := 24) rfl ?_); (try (refine gate_guard (by rfl) ?_; dsimp only)); refine box_event ?hg (N := 24) ?hd (cs := #[.complex .f32 0 0, .complex .f32 0 0, .complex .f32 0 0]) (t := 80) ?hr ?_; (case hd => rfl); (case hg => rfl); (case hr => first | (go_simp; done) | (go_simp; rfl)); intro gb520 hg w96 hbox hb; have n0_ := Aside0.mk (Kd.R_below (ru HO_476003.out) hb); have n1_ := Aside0.mk (blk_below (g := gb475) (o := .cells #[.complex .f32 t469.re t469.im, .complex .f32 t470.re t470.im, .complex .f32 t471.re t471.im, .slice Ao15 t472.length co15] 42 (0, 0)) (bu BK475.out) hb); have n2_ := Aside0.mk (blk_below (g := gb500) (o := .cells #[.complex .f32 t496.re t496.im, .complex .f32 t497.re t497.im, .complex .f32 t498.re t498.im] 39 (0, 0)) (bu BK500.out) hb); have n3_ := Aside0.mk (blk_below (g := gb507) (o := .cells #[.complex .f32 t504.re t504.im, .complex .f32 t505.re t505.im, .complex .f32 t506.re t506.im] 39 (0, 0)) (bu BK507.out) hb); have n4_ := Aside0.mk (below_step tb hb); have n5_ := Aside0.mk (hbox); have n6_ := Aside0.mk ((by rw [hg]; exact (below_size tb) : w.heap.size ≤ gb520)); have n7_ := Aside0.mk ((by rw [hg]; exact (below_size tb) : w.heap.size ≤ gb520)); have n8_ := Aside0.mk ((by rw [hg]; exact Nat.ne_of_lt (blk_lt (g := gb475) (o := .cells #[.complex .f32 t469.re t469.im, .complex .f32 t470.re t470.im, .complex .f32 t471.re t471.im, .slice Ao15 t472.length co15] 42 (0, 0)) (bu BK475.out)) : gb475 ≠ gb520)); have n9_ := Aside0.mk ((by rw [hg]; exact Nat.ne_of_gt (blk_lt (g := gb475) (o := .cells #[.complex .f32 t469.re t469.im, .complex .f32 t470.re t470.im, .complex .f32 t471.re t471.im, .slice Ao15 t472.length co15] 42 (0, 0)) (bu BK475.out)) : gb520 ≠ gb475)); have n10_ := Aside0.mk ((by rw [hg]; exact Nat.ne_of_lt (blk_lt (g := gb500) (o := .cells #[.complex .f32 t496.re t496.im, .complex .f32 t497.re t497.im, .complex .f32 t498.re t498.im] 39 (0, 0)) (bu BK500.out)) : gb500 ≠ gb520)); have n11_ := Aside0.mk ((by rw [hg]; exact Nat.ne_of_gt (blk_lt (g := gb500) (o := .cells #[.complex .f32 t496.re t496.im, .complex .f32 t497.re t497.im, .complex .f32 t498.re t498.im] 39 (0, 0)) (bu BK500.out)) : gb520 ≠ gb500)); have n12_ := Aside0.mk ((by rw [hg]; exact Nat.ne_of_lt (blk_lt (g := gb507) (o := .cells #[.complex .f32 t504.re t504.im, .complex .f32 t505.re t505.im, .complex .f32 t506.re t506.im] 39 (0, 0)) (bu BK507.out)) : gb507 ≠ gb520)); have n13_ := Aside0.mk ((by rw [hg]; exact Nat.ne_of_gt (blk_lt (g := gb507) (o := .cells #[.complex .f32 t504.re t504.im, .complex .f32 t505.re t505.im, .complex .f32 t506.re t506.im] 39 (0, 0)) (bu BK507.out)) : gb520 ≠ gb507)); clear HO_476003; clear BK475; clear BK500; clear BK507; clear HB; have HO_476003 := n0_; have BK475 := n1_; have BK500 := n2_; have BK507 := n3_; have HB := n4_; have BK520 := n5_; have GW520 := n6_; have GE520 := n7_; have NB475_520 := n8_; have NB520_475 := n9_; have NB500_520 := n10_; have NB520_500 := n11_; have NB507_520 := n12_; have NB520_507 := n13_; clear n0_ n1_ n2_ n3_ n4_ n5_ n6_ n7_ n8_ n9_ n10_ n11_ n12_ n13_; clear hb hbox hg; have hnb97 := NB520_475.out; have hnc97 := NB475_520.out; have hnb98 := NB520_500.out; have hnc98 := NB500_520.out; have hnb99 := NB520_507.out; have hnc99 := NB507_520.out; have hcz100_0 : w96.cell? ⟨gb520, 0, none⟩ = some (.complex .f32 0 0) := (blk_cell BK520.out 0).trans rfl; have hcz100_1 : w96.cell? ⟨gb520, 1, none⟩ = some (.complex .f32 0 0) := (blk_cell BK520.out 1).trans rfl; have hcz100_2 : w96.cell? ⟨gb520, 2, none⟩ = some (.complex .f32 0 0) := (blk_cell BK520.out 2).trans rfl; have hfz100_0 := blk_frozen BK520.out 0; have hfz100_1 := blk_frozen BK520.out 1; have hfz100_2 := blk_frozen BK520.out 2; have hcz101_0 : w96.cell? ⟨gb475, 0, none⟩ = some (.complex .f32 t469.re t469.im) := (blk_cell BK475.out 0).trans rfl; have hcz101_1 : w96.cell? ⟨gb475, 1, none⟩ = some (.complex .f32 t470.re t470.im) := (blk_cell BK475.out 1).trans rfl; have hcz101_2 : w96.cell? ⟨gb475, 2, none⟩ = some (.complex .f32 t471.re t471.im) := (blk_cell BK475.out 2).trans rfl; have hcz101_3 : w96.cell? ⟨gb475, 3, none⟩ = some (.slice Ao15 t472.length co15) := (blk_cell BK475.out 3).trans rfl; have hfz101_0 := blk_frozen BK475.out 0; have hfz101_1 := blk_frozen BK475.out 1; have hfz101_2 := blk_frozen BK475.out 2; have hfz101_3 := blk_frozen BK475.out 3) | ((with_reducible refine gate_callee (f := 49) rfl ?_); refine gx_ (some 179) Try.func49 #[.agg #[.complex .f32 t469.re t469.im, .complex .f32 t470.re t470.im, .complex .f32 t471.re t471.im, .slice Ao15 t472.length co15], .int .i64 t476, .int .i64 1, .complex .f32 1056964608 0] ?_; (with_reducible refine (impl_FaultCurrents.calls kj42 t469 t470 t471 _ _ t472 t476 1 (⟨1056964608, 0⟩ : Cx) t521 t522 t523 true _ ?side1 ?side2 A64.out).mono ?_); (case side1 => refine (Kd.R_reads' (e := 66) (base := w.heap.size) (ok := fun k_ => True) (n := t472.length) (c := co15) ?_).2.2; exact (by refine ru ?_; exact (Kd.R_mono (Kd.R_far (p := ⟨gb520, 2, none⟩) (Kd.R_far (p := ⟨gb520, 1, none⟩) (Kd.R_far (p := ⟨gb520, 0, none⟩) (Kd.R_types HO_476003.out BK520.out (by decide)) (fun _ hk => hk.2) (.complex .f32 t516.re t516.im)) (fun _ hk => hk.2) (.complex .f32 t517.re t517.im)) (fun _ hk => hk.2) (.complex .f32 t518.re t518.im)) (fun _ h_ => h_.1)))); (case side2 => exact (Kd.R_reads' HO_476003.out).2.1); rintro e w102 ⟨rfl, hb⟩; refine ⟨_, rfl, ?_⟩; have n0_ := Aside0.mk (Kd.R_below (by refine ru ?_; exact (Kd.R_mono (Kd.R_far (p := ⟨gb520, 2, none⟩) (Kd.R_far (p := ⟨gb520, 1, none⟩) (Kd.R_far (p := ⟨gb520, 0, none⟩) (Kd.R_types HO_476003.out BK520.out (by decide)) (fun _ hk => hk.2) (.complex .f32 t516.re t516.im)) (fun _ hk => hk.2) (.complex .f32 t517.re t517.im)) (fun _ hk => hk.2) (.complex .f32 t518.re t518.im)) (fun _ h_ => h_.1))) hb); have n1_ := Aside0.mk (blk_below (g := gb475) (o := .cells #[.complex .f32 t469.re t469.im, .complex .f32 t470.re t470.im, .complex .f32 t471.re t471.im, .slice Ao15 t472.length co15] 42 (0, 0)) (bv BK475.out) hb); have n2_ := Aside0.mk (blk_below (g := gb500) (o := .cells #[.complex .f32 t496.re t496.im, .complex .f32 t497.re t497.im, .complex .f32 t498.re t498.im] 39 (0, 0)) (bv BK500.out) hb); have n3_ := Aside0.mk (blk_below (g := gb507) (o := .cells #[.complex .f32 t504.re t504.im, .complex .f32 t505.re t505.im, .complex .f32 t506.re t506.im] 39 (0, 0)) (bv BK507.out) hb); have n4_ := Aside0.mk (blk_below (g := gb520) (o := .cells #[.complex .f32 t516.re t516.im, .complex .f32 t517.re t517.im, .complex .f32 t518.re t518.im] 80 (0, 0)) (by refine bu ?_; refine blk_put (cs := #[.complex .f32 t516.re t516.im, .complex .f32 t517.re t517.im, .complex .f32 0 0]) ?_ 2 _ rfl; refine bu ?_; refine blk_put (cs := #[.complex .f32 t516.re t516.im, .complex .f32 0 0, .complex .f32 0 0]) ?_ 1 _ rfl; refine bu ?_; refine blk_put (cs := #[.complex .f32 0 0, .complex .f32 0 0, .complex .f32 0 0]) ?_ 0 _ rfl; refine bu ?_; exact BK520.out) hb); have n5_ := Aside0.mk (below_step tb hb); clear HO_476003; clear BK475; clear BK500; clear BK507; clear BK520; clear HB; have HO_476003 := n0_; have BK475 := n1_; have BK500 := n2_; have BK507 := n3_; have BK520 := n4_; have HB := n5_; clear n0_ n1_ n2_ n3_ n4_ n5_; (try clear hb); (try clear hb2); (try clear hk); (try clear hi)) | ((with_reducible refine gate_dst (N := 26) rfl ?_); (try (refine gate_guard (by rfl) ?_; dsimp only)); refine box_event ?hg (N := 26) ?hd (cs := #[.complex .f32 0 0, .complex .f32 0 0, .complex .f32 0 0]) (t := 39) ?hr ?_; (case hd => rfl); (case hg => rfl); (case hr => first | (go_simp; done) | (go_simp; rfl)); intro gb525 hg w103 hbox hb; have n0_ := Aside0.mk (Kd.R_below (ru HO_476003.out) hb); have n1_ := Aside0.mk (blk_below (g := gb475) (o := .cells #[.complex .f32 t469.re t469.im, .complex .f32 t470.re t470.im, .complex .f32 t471.re t471.im, .slice Ao15 t472.length co15] 42 (0, 0)) (bu BK475.out) hb); have n2_ := Aside0.mk (blk_below (g := gb500) (o := .cells #[.complex .f32 t496.re t496.im, .complex .f32 t497.re t497.im, .complex .f32 t498.re t498.im] 39 (0, 0)) (bu BK500.out) hb); have n3_ := Aside0.mk (blk_below (g := gb507) (o := .cells #[.complex .f32 t504.re t504.im, .complex .f32 t505.re t505.im, .complex .f32 t506.re t506.im] 39 (0, 0)) (bu BK507.out) hb); have n4_ := Aside0.mk (blk_below (g := gb520) (o := .cells #[.complex .f32 t516.re t516.im, .complex .f32 t517.re t517.im, .complex .f32 t518.re t518.im] 80 (0, 0)) (bu BK520.out) hb); have n5_ := Aside0.mk (below_step tb hb); have n6_ := Aside0.mk (hbox); have n7_ := Aside0.mk ((by rw [hg]; exact (below_size tb) : w.heap.size ≤ gb525)); have n8_ := Aside0.mk ((by rw [hg]; exact (below_size tb) : w.heap.size ≤ gb525)); have n9_ := Aside0.mk ((by rw [hg]; exact Nat.ne_of_lt (blk_lt (g := gb475) (o := .cells #[.complex .f32 t469.re t469.im, .complex .f32 t470.re t470.im, .complex .f32 t471.re t471.im, .slice Ao15 t472.length co15] 42 (0, 0)) (bu BK475.out)) : gb475 ≠ gb525)); have n10_ := Aside0.mk ((by rw [hg]; exact Nat.ne_of_gt (blk_lt (g := gb475) (o := .cells #[.complex .f32 t469.re t469.im, .complex .f32 t470.re t470.im, .complex .f32 t471.re t471.im, .slice Ao15 t472.length co15] 42 (0, 0)) (bu BK475.out)) : gb525 ≠ gb475)); have n11_ := Aside0.mk ((by rw [hg]; exact Nat.ne_of_lt (blk_lt (g := gb500) (o := .cells #[.complex .f32 t496.re t496.im, .complex .f32 t497.re t497.im, .complex .f32 t498.re t498.im] 39 (0, 0)) (bu BK500.out)) : gb500 ≠ gb525)); have n12_ := Aside0.mk ((by rw [hg]; exact Nat.ne_of_gt (blk_lt (g := gb500) (o := .cells #[.complex .f32 t496.re t496.im, .complex .f32 t497.re t497.im, .complex .f32 t498.re t498.im] 39 (0, 0)) (bu BK500.out)) : gb525 ≠ gb500)); have n13_ := Aside0.mk ((by rw [hg]; exact Nat.ne_of_lt (blk_lt (g := gb507) (o := .cells #[.complex .f32 t504.re t504.im, .complex .f32 t505.re t505.im, .complex .f32 t506.re t506.im] 39 (0, 0)) (bu BK507.out)) : gb507 ≠ gb525)); have n14_ := Aside0.mk ((by rw [hg]; exact Nat.ne_of_gt (blk_lt (g := gb507) (o := .cells #[.complex .f32 t504.re t504.im, .complex .f32 t505.re t505.im, .complex .f32 t506.re t506.im] 39 (0, 0)) (bu BK507.out)) : gb525 ≠ gb507)); have n15_ := Aside0.mk ((by rw [hg]; exact Nat.ne_of_lt (blk_lt (g := gb520) (o := .cells #[.complex .f32 t516.re t516.im, .complex .f32 t517.re t517.im, .complex .f32 t518.re t518.im] 80 (0, 0)) (bu BK520.out)) : gb520 ≠ gb525)); have n16_ := Aside0.mk ((by rw [hg]; exact Nat.ne_of_gt (blk_lt (g := gb520) (o := .cells #[.complex .f32 t516.re t516.im, .complex .f32 t517.re t517.im, .complex .f32 t518.re t518.im] 80 (0, 0)) (bu BK520.out)) : gb525 ≠ gb520)); clear HO_476003; clear BK475; clear BK500; clear BK507; clear BK520; clear HB; have HO_476003 := n0_; have BK475 := n1_; have BK500 := n2_; have BK507 := n3_; have BK520 := n4_; have HB := n5_; have BK525 := n6_; have GW525 := n7_; have GE525 := n8_; have NB475_525 := n9_; have NB525_475 := n10_; have NB500_525 := n11_; have NB525_500 := n12_; have NB507_525 := n13_; have NB525_507 := n14_; have NB520_525 := n15_; have NB525_520 := n16_; clear n0_ n1_ n2_ n3_ n4_ n5_ n6_ n7_ n8_ n9_ n10_ n11_ n12_ n13_ n14_ n15_ n16_; clear hb hbox hg; have hnb104 := NB525_475.out; have hnc104 := NB475_525.out; have hnb105 := NB525_500.out; have hnc105 := NB500_525.out; have hnb106 := NB525_507.out; have hnc106 := NB507_525.out; have hnb107 := NB525_520.out; have hnc107 := NB520_525.out; have hcz108_0 : w103.cell? ⟨gb525, 0, none⟩ = some (.complex .f32 0 0) := (blk_cell BK525.out 0).trans rfl; have hcz108_1 : w103.cell? ⟨gb525, 1, none⟩ = some (.complex .f32 0 0) := (blk_cell BK525.out 1).trans rfl; have hcz108_2 : w103.cell? ⟨gb525, 2, none⟩ = some (.complex .f32 0 0) := (blk_cell BK525.out 2).trans rfl; have hfz108_0 := blk_frozen BK525.out 0; have hfz108_1 := blk_frozen BK525.out 1; have hfz108_2 := blk_frozen BK525.out 2))
                    have n0_ : Aside0 (Kd.R k66 66 (((w103.setCell ⟨gb525, 0, none⟩ (.complex .f32 t521.re t521.im)).setCell ⟨gb525, 1, none⟩ (.complex .f32 t522.re t522.im)).setCell ⟨gb525, 2, none⟩ (.complex .f32 t523.re t523.im)) w.heap.size (fun _ => True) (.slice Ao15 t472.length co15) t472) := ⟨by refine ru ?_; exact Kd.R_mono (Kd.R_far (p := ⟨gb525, 2, none⟩) (Kd.R_far (p := ⟨gb525, 1, none⟩) (Kd.R_far (p := ⟨gb525, 0, none⟩) (Kd.R_types HO_476003.out BK525.out (by decide)) (fun _ hk => hk.2) (.complex .f32 t521.re t521.im)) (fun _ hk => hk.2) (.complex .f32 t522.re t522.im)) (fun _ hk => hk.2) (.complex .f32 t523.re t523.im)) (fun _ hk => trivial)⟩
                    have n1_ : Aside0 ((((w103.setCell ⟨gb525, 0, none⟩ (.complex .f32 t521.re t521.im)).setCell ⟨gb525, 1, none⟩ (.complex .f32 t522.re t522.im)).setCell ⟨gb525, 2, none⟩ (.complex .f32 t523.re t523.im)).heap[gb475]? = some (.cells #[.complex .f32 t469.re t469.im, .complex .f32 t470.re t470.im, .complex .f32 t471.re t471.im, .slice Ao15 t472.length co15] 42 (0, 0))) := ⟨by refine bv ?_; exact BK475.out⟩
                    have n2_ : Aside0 ((((w103.setCell ⟨gb525, 0, none⟩ (.complex .f32 t521.re t521.im)).setCell ⟨gb525, 1, none⟩ (.complex .f32 t522.re t522.im)).setCell ⟨gb525, 2, none⟩ (.complex .f32 t523.re t523.im)).heap[gb500]? = some (.cells #[.complex .f32 t496.re t496.im, .complex .f32 t497.re t497.im, .complex .f32 t498.re t498.im] 39 (0, 0))) := ⟨by refine bv ?_; exact BK500.out⟩
                    have n3_ : Aside0 ((((w103.setCell ⟨gb525, 0, none⟩ (.complex .f32 t521.re t521.im)).setCell ⟨gb525, 1, none⟩ (.complex .f32 t522.re t522.im)).setCell ⟨gb525, 2, none⟩ (.complex .f32 t523.re t523.im)).heap[gb507]? = some (.cells #[.complex .f32 t504.re t504.im, .complex .f32 t505.re t505.im, .complex .f32 t506.re t506.im] 39 (0, 0))) := ⟨by refine bv ?_; exact BK507.out⟩
                    have n4_ : Aside0 ((((w103.setCell ⟨gb525, 0, none⟩ (.complex .f32 t521.re t521.im)).setCell ⟨gb525, 1, none⟩ (.complex .f32 t522.re t522.im)).setCell ⟨gb525, 2, none⟩ (.complex .f32 t523.re t523.im)).heap[gb520]? = some (.cells #[.complex .f32 t516.re t516.im, .complex .f32 t517.re t517.im, .complex .f32 t518.re t518.im] 80 (0, 0))) := ⟨by refine bv ?_; exact BK520.out⟩
                    have n5_ : Aside0 ((((w103.setCell ⟨gb525, 0, none⟩ (.complex .f32 t521.re t521.im)).setCell ⟨gb525, 1, none⟩ (.complex .f32 t522.re t522.im)).setCell ⟨gb525, 2, none⟩ (.complex .f32 t523.re t523.im)).heap[gb525]? = some (.cells #[.complex .f32 t521.re t521.im, .complex .f32 t522.re t522.im, .complex .f32 t523.re t523.im] 39 (0, 0))) := ⟨by refine bu ?_; refine blk_put (cs := #[.complex .f32 t521.re t521.im, .complex .f32 t522.re t522.im, .complex .f32 0 0]) ?_ 2 _ rfl; refine bu ?_; refine blk_put (cs := #[.complex .f32 t521.re t521.im, .complex .f32 0 0, .complex .f32 0 0]) ?_ 1 _ rfl; refine bu ?_; refine blk_put (cs := #[.complex .f32 0 0, .complex .f32 0 0, .complex .f32 0 0]) ?_ 0 _ rfl; refine bu ?_; exact BK525.out⟩
                    have n6_ : Aside0 (Below w.heap.size w (((w103.setCell ⟨gb525, 0, none⟩ (.complex .f32 t521.re t521.im)).setCell ⟨gb525, 1, none⟩ (.complex .f32 t522.re t522.im)).setCell ⟨gb525, 2, none⟩ (.complex .f32 t523.re t523.im))) := ⟨tb⟩
                    (try clear HO_476003)
                    (try clear BK475)
                    (try clear BK500)
                    (try clear BK507)
                    (try clear BK520)
                    (try clear BK525)
                    (try clear HB)
                    generalize (((w103.setCell ⟨gb525, 0, none⟩ (.complex .f32 t521.re t521.im)).setCell ⟨gb525, 1, none⟩ (.complex .f32 t522.re t522.im)).setCell ⟨gb525, 2, none⟩ (.complex .f32 t523.re t523.im)) = w109 at n0_ n1_ n2_ n3_ n4_ n5_ n6_ ⊢
                    have HO_476003 := n0_
                    have BK475 := n1_
                    have BK500 := n2_
                    have BK507 := n3_
                    have BK520 := n4_
                    have BK525 := n5_
                    have HB := n6_
                    clear n0_ n1_ n2_ n3_ n4_ n5_ n6_
                    have n0_ := Aside0.mk (Kd.R_drew HO_476003.out)
                    have n1_ := Aside0.mk (blk_drew BK475.out)
                    have n2_ := Aside0.mk (blk_drew BK500.out)
                    have n3_ := Aside0.mk (blk_drew BK507.out)
                    have n4_ := Aside0.mk (blk_drew BK520.out)
                    have n5_ := Aside0.mk (blk_drew BK525.out)
                    have n6_ := Aside0.mk (below_drew1 HB.out)
                    clear HO_476003
                    clear BK475
                    clear BK500
                    clear BK507
                    clear BK520
                    clear BK525
                    clear HB
                    have HO_476003 := n0_
                    have BK475 := n1_
                    have BK500 := n2_
                    have BK507 := n3_
                    have BK520 := n4_
                    have BK525 := n5_
                    have HB := n6_
                    clear n0_ n1_ n2_ n3_ n4_ n5_ n6_
                    refine start_ (n := 46) (S := fun w' => w'.cell? ⟨gb500, 0, none⟩ = some (.complex .f32 t496.re t496.im) ∧ w'.cell? ⟨gb500, 1, none⟩ = some (.complex .f32 t497.re t497.im) ∧ w'.cell? ⟨gb500, 2, none⟩ = some (.complex .f32 t498.re t498.im) ∧ w'.cell? ⟨gb507, 0, none⟩ = some (.complex .f32 t504.re t504.im) ∧ w'.cell? ⟨gb507, 1, none⟩ = some (.complex .f32 t505.re t505.im) ∧ w'.cell? ⟨gb507, 2, none⟩ = some (.complex .f32 t506.re t506.im) ∧ w'.cell? ⟨gb525, 0, none⟩ = some (.complex .f32 t521.re t521.im) ∧ w'.cell? ⟨gb525, 1, none⟩ = some (.complex .f32 t522.re t522.im) ∧ w'.cell? ⟨gb525, 2, none⟩ = some (.complex .f32 t523.re t523.im) ∧ w'.cell? ⟨gb520, 0, none⟩ = some (.complex .f32 t516.re t516.im) ∧ w'.cell? ⟨gb520, 1, none⟩ = some (.complex .f32 t517.re t517.im) ∧ w'.cell? ⟨gb520, 2, none⟩ = some (.complex .f32 t518.re t518.im)) (ds := []) #[false, false, false, false, false, false, false, false, false, false, false, false, false, false, false, false, false, false, false, false, false, false, false, false, false, false, false, false, false, false, false, false, false, false, false, false, false, false, false, false, false, false, false, false, false, false] (by kernel_rfl) rfl rfl ⟨(blk_cell BK500.out 0).trans rfl, (blk_cell BK500.out 1).trans rfl, (blk_cell BK500.out 2).trans rfl, (blk_cell BK507.out 0).trans rfl, (blk_cell BK507.out 1).trans rfl, (blk_cell BK507.out 2).trans rfl, (blk_cell BK525.out 0).trans rfl, (blk_cell BK525.out 1).trans rfl, (blk_cell BK525.out 2).trans rfl, (blk_cell BK520.out 0).trans rfl, (blk_cell BK520.out 1).trans rfl, (blk_cell BK520.out 2).trans rfl⟩ (fun hHeld => ?_); refine with_tabW laws_FnCommon.tab25 laws_FnCommon.bits25 (fun HT_ HW_ => ?_)
                    generalize w109.drew = w110 at HO_476003 BK475 BK500 BK507 BK520 BK525 HB hHeld ⊢
                    refine pure_ (i := 0) (N := some 182) (v := ?_) (a' := ?_) #[true, false, false, false, false, false, false, false, false, false, false, false, false, false, false, false, false, false, false, false, false, false, false, false, false, false, false, false, false, false, false, false, false, false, false, false, false, false, false, false, false, false, false, false, false, false] rfl rfl (any_of HT_.out (by kernel_rfl)) (fun _ _ _ h => h) (Or.inl ⟨by rfl, ?_⟩) ?_ ?_
                    rotate_left
                    ·intro w'
                     go_simp
                     with_reducible rfl
                    rotate_left
                    ·refine ps_ ?_
                     rfl
                    refine pure_ (i := 1) (N := some 183) (v := ?_) (a' := ?_) #[true, true, false, false, false, false, false, false, false, false, false, false, false, false, false, false, false, false, false, false, false, false, false, false, false, false, false, false, false, false, false, false, false, false, false, false, false, false, false, false, false, false, false, false, false, false] rfl rfl (any_of HT_.out (by kernel_rfl)) (fun _ _ _ h => h) (Or.inl ⟨by rfl, ?_⟩) ?_ ?_
                    rotate_left
                    ·intro w'
                     go_simp
                     with_reducible rfl
                    rotate_left
                    ·refine ps_ ?_
                     rfl
                    refine pure_ (i := 2) (N := some 184) (v := ?_) (a' := ?_) #[true, true, true, false, false, false, false, false, false, false, false, false, false, false, false, false, false, false, false, false, false, false, false, false, false, false, false, false, false, false, false, false, false, false, false, false, false, false, false, false, false, false, false, false, false, false] rfl rfl (any_of HT_.out (by kernel_rfl)) (fun _ _ _ h => h) (Or.inl ⟨by rfl, ?_⟩) ?_ ?_
                    rotate_left
                    ·intro w'
                     go_simp
                     with_reducible rfl
                    rotate_left
                    ·refine ps_ ?_
                     rfl
                    refine pure_ (i := 3) (N := some 185) (v := ?_) (a' := ?_) #[true, true, true, true, false, false, false, false, false, false, false, false, false, false, false, false, false, false, false, false, false, false, false, false, false, false, false, false, false, false, false, false, false, false, false, false, false, false, false, false, false, false, false, false, false, false] rfl rfl (any_of HT_.out (by kernel_rfl)) (fun _ _ _ h => h) (Or.inl ⟨by rfl, ?_⟩) ?_ ?_
                    rotate_left
                    ·intro w'
                     go_simp
                     with_reducible rfl
                    rotate_left
                    ·refine ps_ ?_
                     rfl
                    refine pure_ (i := 4) (N := some 186) (v := ?_) (a' := ?_) #[true, true, true, true, true, false, false, false, false, false, false, false, false, false, false, false, false, false, false, false, false, false, false, false, false, false, false, false, false, false, false, false, false, false, false, false, false, false, false, false, false, false, false, false, false, false] rfl rfl (any_of HT_.out (by kernel_rfl)) (fun _ _ _ h => h) (Or.inl ⟨by rfl, ?_⟩) ?_ ?_
                    rotate_left
                    ·intro w'
                     go_simp
                     with_reducible rfl
                    rotate_left
                    ·refine ps_ ?_
                     rfl
                    refine pure_ (i := 5) (N := some 187) (v := ?_) (a' := ?_) #[true, true, true, true, true, true, false, false, false, false, false, false, false, false, false, false, false, false, false, false, false, false, false, false, false, false, false, false, false, false, false, false, false, false, false, false, false, false, false, false, false, false, false, false, false, false] rfl rfl (any_of HT_.out (by kernel_rfl)) (fun _ _ _ h => h) (Or.inl ⟨by rfl, ?_⟩) ?_ ?_
                    rotate_left
                    ·intro w'
                     go_simp
                     with_reducible rfl
                    rotate_left
                    ·refine ps_ ?_
                     rfl
                    refine pure_ (i := 6) (N := some 188) (v := ?_) (a' := ?_) #[true, true, true, true, true, true, true, false, false, false, false, false, false, false, false, false, false, false, false, false, false, false, false, false, false, false, false, false, false, false, false, false, false, false, false, false, false, false, false, false, false, false, false, false, false, false] rfl rfl (any_of HT_.out (by kernel_rfl)) (fun _ _ _ h => h) (Or.inl ⟨by rfl, ?_⟩) ?_ ?_
                    rotate_left
                    ·intro w'
                     go_simp
                     with_reducible rfl
                    rotate_left
                    ·refine ps_ ?_
                     rfl
                    refine pure_ (i := 7) (N := some 189) (v := ?_) (a' := ?_) #[true, true, true, true, true, true, true, true, false, false, false, false, false, false, false, false, false, false, false, false, false, false, false, false, false, false, false, false, false, false, false, false, false, false, false, false, false, false, false, false, false, false, false, false, false, false] rfl rfl (any_of HT_.out (by kernel_rfl)) (fun _ _ _ h => h) (Or.inl ⟨by rfl, ?_⟩) ?_ ?_
                    rotate_left
                    ·intro w'
                     go_simp
                     with_reducible rfl
                    rotate_left
                    ·refine ps_ ?_
                     rfl
                    refine pure_ (i := 8) (N := some 190) (v := ?_) (a' := ?_) #[true, true, true, true, true, true, true, true, true, false, false, false, false, false, false, false, false, false, false, false, false, false, false, false, false, false, false, false, false, false, false, false, false, false, false, false, false, false, false, false, false, false, false, false, false, false] rfl rfl (any_of HT_.out (by kernel_rfl)) (fun _ _ _ h => h) (Or.inl ⟨by rfl, ?_⟩) ?_ ?_
                    rotate_left
                    ·intro w'
                     go_simp
                     with_reducible rfl
                    rotate_left
                    ·refine ps_ ?_
                     rfl
                    refine pure_ (i := 9) (N := some 191) (v := ?_) (a' := ?_) #[true, true, true, true, true, true, true, true, true, true, false, false, false, false, false, false, false, false, false, false, false, false, false, false, false, false, false, false, false, false, false, false, false, false, false, false, false, false, false, false, false, false, false, false, false, false] rfl rfl (any_of HT_.out (by kernel_rfl)) (fun _ _ _ h => h) (Or.inl ⟨by rfl, ?_⟩) ?_ ?_
                    rotate_left
                    ·intro w'
                     go_simp
                     with_reducible rfl
                    rotate_left
                    ·refine ps_ ?_
                     rfl
                    refine pure_ (i := 10) (N := some 192) (v := ?_) (a' := ?_) #[true, true, true, true, true, true, true, true, true, true, true, false, false, false, false, false, false, false, false, false, false, false, false, false, false, false, false, false, false, false, false, false, false, false, false, false, false, false, false, false, false, false, false, false, false, false] rfl rfl (any_of HT_.out (by kernel_rfl)) (fun _ _ _ h => h) (Or.inl ⟨by rfl, ?_⟩) ?_ ?_
                    rotate_left
                    ·intro w'
                     go_simp
                     with_reducible rfl
                    rotate_left
                    ·refine ps_ ?_
                     rfl
                    refine pure_ (i := 11) (N := some 193) (v := ?_) (a' := ?_) #[true, true, true, true, true, true, true, true, true, true, true, true, false, false, false, false, false, false, false, false, false, false, false, false, false, false, false, false, false, false, false, false, false, false, false, false, false, false, false, false, false, false, false, false, false, false] rfl rfl (any_of HT_.out (by kernel_rfl)) (fun _ _ _ h => h) (Or.inl ⟨by rfl, ?_⟩) ?_ ?_
                    rotate_left
                    ·intro w'
                     go_simp
                     with_reducible rfl
                    rotate_left
                    ·refine ps_ ?_
                     rfl
                    refine pure_ (i := 13) (N := some 195) (v := ?_) (a' := ?_) #[true, true, true, true, true, true, true, true, true, true, true, true, false, true, false, false, false, false, false, false, false, false, false, false, false, false, false, false, false, false, false, false, false, false, false, false, false, false, false, false, false, false, false, false, false, false] rfl rfl (any_of HT_.out (by kernel_rfl)) (fun _ _ _ h => h) (Or.inl ⟨by rfl, ?_⟩) ?_ ?_
                    rotate_left
                    ·intro w'
                     go_simp
                     with_reducible rfl
                    rotate_left
                    ·refine ps_ ?_
                     rfl
                    refine take_ (i := 12) (N := some 194) (v := ?_) (a' := ?_) #[true, true, true, true, true, true, true, true, true, true, true, true, true, true, false, false, false, false, false, false, false, false, false, false, false, false, false, false, false, false, false, false, false, false, false, false, false, false, false, false, false, false, false, false, false, false] rfl rfl (take_ofW HT_.out HW_.out (by kernel_rfl)) (fun _ _ _ h => h) (Or.inl ⟨by rfl, ?_⟩) hHeld ?_ ?_
                    rotate_left
                    ·rintro w' ⟨s0, s1, s2, s3, s4, s5, s6, s7, s8, s9, s10, s11⟩
                     go_simp
                     with_reducible rfl
                    rotate_left
                    ·refine ps_ ?_
                     rfl
                    refine take_ (i := 14) (N := some 196) (v := ?_) (a' := ?_) #[true, true, true, true, true, true, true, true, true, true, true, true, true, true, true, false, false, false, false, false, false, false, false, false, false, false, false, false, false, false, false, false, false, false, false, false, false, false, false, false, false, false, false, false, false, false] rfl rfl (take_ofW HT_.out HW_.out (by kernel_rfl)) (fun _ _ _ h => h) (Or.inl ⟨by rfl, ?_⟩) hHeld ?_ ?_
                    rotate_left
                    ·rintro w' ⟨s0, s1, s2, s3, s4, s5, s6, s7, s8, s9, s10, s11⟩
                     go_simp
                     with_reducible rfl
                    rotate_left
                    ·refine ps_ ?_
                     rfl
                    refine one_ (i := 15) (N := some 197) #[true, true, true, true, true, true, true, true, true, true, true, true, true, true, true, true, false, false, false, false, false, false, false, false, false, false, false, false, false, false, false, false, false, false, false, false, false, false, false, false, false, false, false, false, false, false] rfl rfl (one_of HT_.out (by kernel_rfl)) (by decide) (fun K hK => ?_)
                    refine goes_ Try.func50 (by kernel_rfl) rfl #[.complex .f32 t496.re t496.im, .complex .f32 t504.re t504.im] (by rfl) rfl rfl mp_ ?_
                    with_reducible refine (laws_r8Apart.calls t496 t504 t526 _ A69.out).mono ?_
                    rintro e w111 ⟨rfl, hb⟩
                    refine ⟨_, rfl, ?_⟩
                    have n0_ := Aside0.mk (Kd.R_below (ru HO_476003.out) hb)
                    have n1_ := Aside0.mk (blk_below (g := gb475) (o := .cells #[.complex .f32 t469.re t469.im, .complex .f32 t470.re t470.im, .complex .f32 t471.re t471.im, .slice Ao15 t472.length co15] 42 (0, 0)) (bu BK475.out) hb)
                    have n2_ := Aside0.mk (blk_below (g := gb500) (o := .cells #[.complex .f32 t496.re t496.im, .complex .f32 t497.re t497.im, .complex .f32 t498.re t498.im] 39 (0, 0)) (bu BK500.out) hb)
                    have n3_ := Aside0.mk (blk_below (g := gb507) (o := .cells #[.complex .f32 t504.re t504.im, .complex .f32 t505.re t505.im, .complex .f32 t506.re t506.im] 39 (0, 0)) (bu BK507.out) hb)
                    have n4_ := Aside0.mk (blk_below (g := gb520) (o := .cells #[.complex .f32 t516.re t516.im, .complex .f32 t517.re t517.im, .complex .f32 t518.re t518.im] 80 (0, 0)) (bu BK520.out) hb)
                    have n5_ := Aside0.mk (blk_below (g := gb525) (o := .cells #[.complex .f32 t521.re t521.im, .complex .f32 t522.re t522.im, .complex .f32 t523.re t523.im] 39 (0, 0)) (bu BK525.out) hb)
                    have n6_ := Aside0.mk (below_step tb hb)
                    clear HO_476003
                    clear BK475
                    clear BK500
                    clear BK507
                    clear BK520
                    clear BK525
                    clear HB
                    have HO_476003 := n0_
                    have BK475 := n1_
                    have BK500 := n2_
                    have BK507 := n3_
                    have BK520 := n4_
                    have BK525 := n5_
                    have HB := n6_
                    clear n0_ n1_ n2_ n3_ n4_ n5_ n6_
                    (try clear hb)
                    (try clear hb2)
                    (try clear hk)
                    (try clear hi)
                    refine hK.out _ _ ⟨(blk_cell BK500.out 0).trans rfl, (blk_cell BK500.out 1).trans rfl, (blk_cell BK500.out 2).trans rfl, (blk_cell BK507.out 0).trans rfl, (blk_cell BK507.out 1).trans rfl, (blk_cell BK507.out 2).trans rfl, (blk_cell BK525.out 0).trans rfl, (blk_cell BK525.out 1).trans rfl, (blk_cell BK525.out 2).trans rfl, (blk_cell BK520.out 0).trans rfl, (blk_cell BK520.out 1).trans rfl, (blk_cell BK520.out 2).trans rfl⟩ (fun hHeld => ?_)
                    clear hK K
                    refine norm_ (a' := ?_) ?_ ?_
                    rotate_left
                    ·show Act.put _ (some 197) _ = _
                     refine ps_ ?_
                     rfl
                    refine pure_ (i := 16) (N := some 198) (v := ?_) (a' := ?_) #[true, true, true, true, true, true, true, true, true, true, true, true, true, true, true, true, true, false, false, false, false, false, false, false, false, false, false, false, false, false, false, false, false, false, false, false, false, false, false, false, false, false, false, false, false, false] rfl rfl (any_of HT_.out (by kernel_rfl)) (fun _ _ _ h => h) (Or.inl ⟨by rfl, ?_⟩) ?_ ?_
                    rotate_left
                    ·intro w'
                     go_simp
                     with_reducible rfl
                    rotate_left
                    ·refine ps_ ?_
                     rfl
                    refine pure_ (i := 17) (N := some 199) (v := ?_) (a' := ?_) #[true, true, true, true, true, true, true, true, true, true, true, true, true, true, true, true, true, true, false, false, false, false, false, false, false, false, false, false, false, false, false, false, false, false, false, false, false, false, false, false, false, false, false, false, false, false] rfl rfl (any_of HT_.out (by kernel_rfl)) (fun _ _ _ h => h) (Or.inl ⟨by rfl, ?_⟩) ?_ ?_
                    rotate_left
                    ·intro w'
                     go_simp
                     with_reducible rfl
                    rotate_left
                    ·refine ps_ ?_
                     rfl
                    refine pure_ (i := 18) (N := some 200) (v := ?_) (a' := ?_) #[true, true, true, true, true, true, true, true, true, true, true, true, true, true, true, true, true, true, true, false, false, false, false, false, false, false, false, false, false, false, false, false, false, false, false, false, false, false, false, false, false, false, false, false, false, false] rfl rfl (any_of HT_.out (by kernel_rfl)) (fun _ _ _ h => h) (Or.inl ⟨by rfl, ?_⟩) ?_ ?_
                    rotate_left
                    ·intro w'
                     go_simp
                     with_reducible rfl
                    rotate_left
                    ·refine ps_ ?_
                     rfl
                    refine pure_ (i := 19) (N := some 201) (v := ?_) (a' := ?_) #[true, true, true, true, true, true, true, true, true, true, true, true, true, true, true, true, true, true, true, true, false, false, false, false, false, false, false, false, false, false, false, false, false, false, false, false, false, false, false, false, false, false, false, false, false, false] rfl rfl (any_of HT_.out (by kernel_rfl)) (fun _ _ _ h => h) (Or.inl ⟨by rfl, ?_⟩) ?_ ?_
                    rotate_left
                    ·intro w'
                     go_simp
                     with_reducible rfl
                    rotate_left
                    ·refine ps_ ?_
                     rfl
                    refine pure_ (i := 21) (N := some 203) (v := ?_) (a' := ?_) #[true, true, true, true, true, true, true, true, true, true, true, true, true, true, true, true, true, true, true, true, false, true, false, false, false, false, false, false, false, false, false, false, false, false, false, false, false, false, false, false, false, false, false, false, false, false] rfl rfl (any_of HT_.out (by kernel_rfl)) (fun _ _ _ h => h) (Or.inl ⟨by rfl, ?_⟩) ?_ ?_
                    rotate_left
                    ·intro w'
                     go_simp
                     with_reducible rfl
                    rotate_left
                    ·refine ps_ ?_
                     rfl
                    refine take_ (i := 20) (N := some 202) (v := ?_) (a' := ?_) #[true, true, true, true, true, true, true, true, true, true, true, true, true, true, true, true, true, true, true, true, true, true, false, false, false, false, false, false, false, false, false, false, false, false, false, false, false, false, false, false, false, false, false, false, false, false] rfl rfl (take_ofW HT_.out HW_.out (by kernel_rfl)) (fun _ _ _ h => h) (Or.inl ⟨by rfl, ?_⟩) hHeld ?_ ?_
                    rotate_left
                    ·rintro w' ⟨s0, s1, s2, s3, s4, s5, s6, s7, s8, s9, s10, s11⟩
                     go_simp
                     with_reducible rfl
                    rotate_left
                    ·refine ps_ ?_
                     rfl
                    refine take_ (i := 22) (N := some 204) (v := ?_) (a' := ?_) #[true, true, true, true, true, true, true, true, true, true, true, true, true, true, true, true, true, true, true, true, true, true, true, false, false, false, false, false, false, false, false, false, false, false, false, false, false, false, false, false, false, false, false, false, false, false] rfl rfl (take_ofW HT_.out HW_.out (by kernel_rfl)) (fun _ _ _ h => h) (Or.inl ⟨by rfl, ?_⟩) hHeld ?_ ?_
                    rotate_left
                    ·rintro w' ⟨s0, s1, s2, s3, s4, s5, s6, s7, s8, s9, s10, s11⟩
                     go_simp
                     with_reducible rfl
                    rotate_left
                    ·refine ps_ ?_
                     rfl
                    refine one_ (i := 23) (N := some 205) #[true, true, true, true, true, true, true, true, true, true, true, true, true, true, true, true, true, true, true, true, true, true, true, true, false, false, false, false, false, false, false, false, false, false, false, false, false, false, false, false, false, false, false, false, false, false] rfl rfl (one_of HT_.out (by kernel_rfl)) (by decide) (fun K hK => ?_)
                    refine goes_ Try.func50 (by kernel_rfl) rfl #[.complex .f32 t497.re t497.im, .complex .f32 t505.re t505.im] (by rfl) rfl rfl mp_ ?_
                    with_reducible refine (laws_r8Apart.calls t497 t505 t527 _ A71.out).mono ?_
                    rintro e w112 ⟨rfl, hb⟩
                    refine ⟨_, rfl, ?_⟩
                    have n0_ := Aside0.mk (Kd.R_below (ru HO_476003.out) hb)
                    have n1_ := Aside0.mk (blk_below (g := gb475) (o := .cells #[.complex .f32 t469.re t469.im, .complex .f32 t470.re t470.im, .complex .f32 t471.re t471.im, .slice Ao15 t472.length co15] 42 (0, 0)) (bu BK475.out) hb)
                    have n2_ := Aside0.mk (blk_below (g := gb500) (o := .cells #[.complex .f32 t496.re t496.im, .complex .f32 t497.re t497.im, .complex .f32 t498.re t498.im] 39 (0, 0)) (bu BK500.out) hb)
                    have n3_ := Aside0.mk (blk_below (g := gb507) (o := .cells #[.complex .f32 t504.re t504.im, .complex .f32 t505.re t505.im, .complex .f32 t506.re t506.im] 39 (0, 0)) (bu BK507.out) hb)
                    have n4_ := Aside0.mk (blk_below (g := gb520) (o := .cells #[.complex .f32 t516.re t516.im, .complex .f32 t517.re t517.im, .complex .f32 t518.re t518.im] 80 (0, 0)) (bu BK520.out) hb)
                    have n5_ := Aside0.mk (blk_below (g := gb525) (o := .cells #[.complex .f32 t521.re t521.im, .complex .f32 t522.re t522.im, .complex .f32 t523.re t523.im] 39 (0, 0)) (bu BK525.out) hb)
                    have n6_ := Aside0.mk (below_step tb hb)
                    clear HO_476003
                    clear BK475
                    clear BK500
                    clear BK507
                    clear BK520
                    clear BK525
                    clear HB
                    have HO_476003 := n0_
                    have BK475 := n1_
                    have BK500 := n2_
                    have BK507 := n3_
                    have BK520 := n4_
                    have BK525 := n5_
                    have HB := n6_
                    clear n0_ n1_ n2_ n3_ n4_ n5_ n6_
                    (try clear hb)
                    (try clear hb2)
                    (try clear hk)
                    (try clear hi)
                    refine hK.out _ _ ⟨(blk_cell BK500.out 0).trans rfl, (blk_cell BK500.out 1).trans rfl, (blk_cell BK500.out 2).trans rfl, (blk_cell BK507.out 0).trans rfl, (blk_cell BK507.out 1).trans rfl, (blk_cell BK507.out 2).trans rfl, (blk_cell BK525.out 0).trans rfl, (blk_cell BK525.out 1).trans rfl, (blk_cell BK525.out 2).trans rfl, (blk_cell BK520.out 0).trans rfl, (blk_cell BK520.out 1).trans rfl, (blk_cell BK520.out 2).trans rfl⟩ (fun hHeld => ?_)
                    clear hK K
                    refine norm_ (a' := ?_) ?_ ?_
                    rotate_left
                    ·show Act.put _ (some 205) _ = _
                     refine ps_ ?_
                     rfl
                    refine pure_ (i := 24) (N := some 206) (v := ?_) (a' := ?_) #[true, true, true, true, true, true, true, true, true, true, true, true, true, true, true, true, true, true, true, true, true, true, true, true, true, false, false, false, false, false, false, false, false, false, false, false, false, false, false, false, false, false, false, false, false, false] rfl rfl (any_of HT_.out (by kernel_rfl)) (fun _ _ _ h => h) (Or.inl ⟨by rfl, ?_⟩) ?_ ?_
                    rotate_left
                    ·intro w'
                     go_simp
                     with_reducible rfl
                    rotate_left
                    ·refine ps_ ?_
                     rfl
                    refine pure_ (i := 25) (N := some 207) (v := ?_) (a' := ?_) #[true, true, true, true, true, true, true, true, true, true, true, true, true, true, true, true, true, true, true, true, true, true, true, true, true, true, false, false, false, false, false, false, false, false, false, false, false, false, false, false, false, false, false, false, false, false] rfl rfl (any_of HT_.out (by kernel_rfl)) (fun _ _ _ h => h) (Or.inl ⟨by rfl, ?_⟩) ?_ ?_
                    rotate_left
                    ·intro w'
                     go_simp
                     with_reducible rfl
                    rotate_left
                    ·refine ps_ ?_
                     rfl
                    refine pure_ (i := 26) (N := some 208) (v := ?_) (a' := ?_) #[true, true, true, true, true, true, true, true, true, true, true, true, true, true, true, true, true, true, true, true, true, true, true, true, true, true, true, false, false, false, false, false, false, false, false, false, false, false, false, false, false, false, false, false, false, false] rfl rfl (any_of HT_.out (by kernel_rfl)) (fun _ _ _ h => h) (Or.inl ⟨by rfl, ?_⟩) ?_ ?_
                    rotate_left
                    ·intro w'
                     go_simp
                     with_reducible rfl
                    rotate_left
                    ·refine ps_ ?_
                     rfl
                    refine pure_ (i := 27) (N := some 209) (v := ?_) (a' := ?_) #[true, true, true, true, true, true, true, true, true, true, true, true, true, true, true, true, true, true, true, true, true, true, true, true, true, true, true, true, false, false, false, false, false, false, false, false, false, false, false, false, false, false, false, false, false, false] rfl rfl (any_of HT_.out (by kernel_rfl)) (fun _ _ _ h => h) (Or.inl ⟨by rfl, ?_⟩) ?_ ?_
                    rotate_left
                    ·intro w'
                     go_simp
                     with_reducible rfl
                    rotate_left
                    ·refine ps_ ?_
                     rfl
                    refine pure_ (i := 29) (N := some 211) (v := ?_) (a' := ?_) #[true, true, true, true, true, true, true, true, true, true, true, true, true, true, true, true, true, true, true, true, true, true, true, true, true, true, true, true, false, true, false, false, false, false, false, false, false, false, false, false, false, false, false, false, false, false] rfl rfl (any_of HT_.out (by kernel_rfl)) (fun _ _ _ h => h) (Or.inl ⟨by rfl, ?_⟩) ?_ ?_
                    rotate_left
                    ·intro w'
                     go_simp
                     with_reducible rfl
                    rotate_left
                    ·refine ps_ ?_
                     rfl
                    refine take_ (i := 28) (N := some 210) (v := ?_) (a' := ?_) #[true, true, true, true, true, true, true, true, true, true, true, true, true, true, true, true, true, true, true, true, true, true, true, true, true, true, true, true, true, true, false, false, false, false, false, false, false, false, false, false, false, false, false, false, false, false] rfl rfl (take_ofW HT_.out HW_.out (by kernel_rfl)) (fun _ _ _ h => h) (Or.inl ⟨by rfl, ?_⟩) hHeld ?_ ?_
                    rotate_left
                    ·rintro w' ⟨s0, s1, s2, s3, s4, s5, s6, s7, s8, s9, s10, s11⟩
                     go_simp
                     with_reducible rfl
                    rotate_left
                    ·refine ps_ ?_
                     rfl
                    refine take_ (i := 30) (N := some 212) (v := ?_) (a' := ?_) #[true, true, true, true, true, true, true, true, true, true, true, true, true, true, true, true, true, true, true, true, true, true, true, true, true, true, true, true, true, true, true, false, false, false, false, false, false, false, false, false, false, false, false, false, false, false] rfl rfl (take_ofW HT_.out HW_.out (by kernel_rfl)) (fun _ _ _ h => h) (Or.inl ⟨by rfl, ?_⟩) hHeld ?_ ?_
                    rotate_left
                    ·rintro w' ⟨s0, s1, s2, s3, s4, s5, s6, s7, s8, s9, s10, s11⟩
                     go_simp
                     with_reducible rfl
                    rotate_left
                    ·refine ps_ ?_
                     rfl
                    refine one_ (i := 31) (N := some 213) #[true, true, true, true, true, true, true, true, true, true, true, true, true, true, true, true, true, true, true, true, true, true, true, true, true, true, true, true, true, true, true, true, false, false, false, false, false, false, false, false, false, false, false, false, false, false] rfl rfl (one_of HT_.out (by kernel_rfl)) (by decide) (fun K hK => ?_)
                    refine goes_ Try.func50 (by kernel_rfl) rfl #[.complex .f32 t498.re t498.im, .complex .f32 t506.re t506.im] (by rfl) rfl rfl mp_ ?_
                    with_reducible refine (laws_r8Apart.calls t498 t506 t528 _ A73.out).mono ?_
                    rintro e w113 ⟨rfl, hb⟩
                    refine ⟨_, rfl, ?_⟩
                    have n0_ := Aside0.mk (Kd.R_below (ru HO_476003.out) hb)
                    have n1_ := Aside0.mk (blk_below (g := gb475) (o := .cells #[.complex .f32 t469.re t469.im, .complex .f32 t470.re t470.im, .complex .f32 t471.re t471.im, .slice Ao15 t472.length co15] 42 (0, 0)) (bu BK475.out) hb)
                    have n2_ := Aside0.mk (blk_below (g := gb500) (o := .cells #[.complex .f32 t496.re t496.im, .complex .f32 t497.re t497.im, .complex .f32 t498.re t498.im] 39 (0, 0)) (bu BK500.out) hb)
                    have n3_ := Aside0.mk (blk_below (g := gb507) (o := .cells #[.complex .f32 t504.re t504.im, .complex .f32 t505.re t505.im, .complex .f32 t506.re t506.im] 39 (0, 0)) (bu BK507.out) hb)
                    have n4_ := Aside0.mk (blk_below (g := gb520) (o := .cells #[.complex .f32 t516.re t516.im, .complex .f32 t517.re t517.im, .complex .f32 t518.re t518.im] 80 (0, 0)) (bu BK520.out) hb)
                    have n5_ := Aside0.mk (blk_below (g := gb525) (o := .cells #[.complex .f32 t521.re t521.im, .complex .f32 t522.re t522.im, .complex .f32 t523.re t523.im] 39 (0, 0)) (bu BK525.out) hb)
                    have n6_ := Aside0.mk (below_step tb hb)
                    clear HO_476003
                    clear BK475
                    clear BK500
                    clear BK507
                    clear BK520
                    clear BK525
                    clear HB
                    have HO_476003 := n0_
                    have BK475 := n1_
                    have BK500 := n2_
                    have BK507 := n3_
                    have BK520 := n4_
                    have BK525 := n5_
                    have HB := n6_
                    clear n0_ n1_ n2_ n3_ n4_ n5_ n6_
                    (try clear hb)
                    (try clear hb2)
                    (try clear hk)
                    (try clear hi)
                    refine hK.out _ _ ⟨(blk_cell BK500.out 0).trans rfl, (blk_cell BK500.out 1).trans rfl, (blk_cell BK500.out 2).trans rfl, (blk_cell BK507.out 0).trans rfl, (blk_cell BK507.out 1).trans rfl, (blk_cell BK507.out 2).trans rfl, (blk_cell BK525.out 0).trans rfl, (blk_cell BK525.out 1).trans rfl, (blk_cell BK525.out 2).trans rfl, (blk_cell BK520.out 0).trans rfl, (blk_cell BK520.out 1).trans rfl, (blk_cell BK520.out 2).trans rfl⟩ (fun hHeld => ?_)
                    clear hK K
                    refine norm_ (a' := ?_) ?_ ?_
                    rotate_left
                    ·show Act.put _ (some 213) _ = _
                     refine ps_ ?_
                     rfl
                    refine pure_ (i := 32) (N := some 214) (v := ?_) (a' := ?_) #[true, true, true, true, true, true, true, true, true, true, true, true, true, true, true, true, true, true, true, true, true, true, true, true, true, true, true, true, true, true, true, true, true, false, false, false, false, false, false, false, false, false, false, false, false, false] rfl rfl (any_of HT_.out (by kernel_rfl)) (fun _ _ _ h => h) (Or.inl ⟨by rfl, ?_⟩) ?_ ?_
                    rotate_left
                    ·intro w'
                     go_simp
                     with_reducible rfl
                    rotate_left
                    ·refine ps_ ?_
                     rfl
                    refine pure_ (i := 33) (N := some 215) (v := ?_) (a' := ?_) #[true, true, true, true, true, true, true, true, true, true, true, true, true, true, true, true, true, true, true, true, true, true, true, true, true, true, true, true, true, true, true, true, true, true, false, false, false, false, false, false, false, false, false, false, false, false] rfl rfl (any_of HT_.out (by kernel_rfl)) (fun _ _ _ h => h) (Or.inl ⟨by rfl, ?_⟩) ?_ ?_
                    rotate_left
                    ·intro w'
                     go_simp
                     with_reducible rfl
                    rotate_left
                    ·refine ps_ ?_
                     rfl
                    refine pure_ (i := 34) (N := some 216) (v := ?_) (a' := ?_) #[true, true, true, true, true, true, true, true, true, true, true, true, true, true, true, true, true, true, true, true, true, true, true, true, true, true, true, true, true, true, true, true, true, true, true, false, false, false, false, false, false, false, false, false, false, false] rfl rfl (any_of HT_.out (by kernel_rfl)) (fun _ _ _ h => h) (Or.inl ⟨by rfl, ?_⟩) ?_ ?_
                    rotate_left
                    ·intro w'
                     go_simp
                     with_reducible rfl
                    rotate_left
                    ·refine ps_ ?_
                     rfl
                    refine take_ (i := 35) (N := some 217) (v := ?_) (a' := ?_) #[true, true, true, true, true, true, true, true, true, true, true, true, true, true, true, true, true, true, true, true, true, true, true, true, true, true, true, true, true, true, true, true, true, true, true, true, false, false, false, false, false, false, false, false, false, false] rfl rfl (take_ofW HT_.out HW_.out (by kernel_rfl)) (fun _ _ _ h => h) (Or.inl ⟨by rfl, ?_⟩) hHeld ?_ ?_
                    rotate_left
                    ·rintro w' ⟨s0, s1, s2, s3, s4, s5, s6, s7, s8, s9, s10, s11⟩
                     go_simp
                     with_reducible rfl
                    rotate_left
                    ·refine ps_ ?_
                     rfl
                    refine take_ (i := 36) (N := some 218) (v := ?_) (a' := ?_) #[true, true, true, true, true, true, true, true, true, true, true, true, true, true, true, true, true, true, true, true, true, true, true, true, true, true, true, true, true, true, true, true, true, true, true, true, true, false, false, false, false, false, false, false, false, false] rfl rfl (take_ofW HT_.out HW_.out (by kernel_rfl)) (fun _ _ _ h => h) (Or.inl ⟨by rfl, ?_⟩) hHeld ?_ ?_
                    rotate_left
                    ·rintro w' ⟨s0, s1, s2, s3, s4, s5, s6, s7, s8, s9, s10, s11⟩
                     go_simp
                     with_reducible rfl
                    rotate_left
                    ·refine ps_ ?_
                     rfl
                    refine one_ (i := 37) (N := some 219) #[true, true, true, true, true, true, true, true, true, true, true, true, true, true, true, true, true, true, true, true, true, true, true, true, true, true, true, true, true, true, true, true, true, true, true, true, true, true, false, false, false, false, false, false, false, false] rfl rfl (one_of HT_.out (by kernel_rfl)) (by decide) (fun K hK => ?_)
                    refine goes_ Try.func44 (by kernel_rfl) rfl #[.agg #[.complex .f32 t516.re t516.im, .complex .f32 t517.re t517.im, .complex .f32 t518.re t518.im]] (by rfl) rfl rfl mp_ ?_
                    with_reducible refine (impl_PhasesOf.calls kj42 t516 t517 t518 t529 t530 t531 _ A75.out).mono ?_
                    rintro e w114 ⟨rfl, hb⟩
                    refine ⟨_, rfl, ?_⟩
                    have n0_ := Aside0.mk (Kd.R_below (ru HO_476003.out) hb)
                    have n1_ := Aside0.mk (blk_below (g := gb475) (o := .cells #[.complex .f32 t469.re t469.im, .complex .f32 t470.re t470.im, .complex .f32 t471.re t471.im, .slice Ao15 t472.length co15] 42 (0, 0)) (bu BK475.out) hb)
                    have n2_ := Aside0.mk (blk_below (g := gb500) (o := .cells #[.complex .f32 t496.re t496.im, .complex .f32 t497.re t497.im, .complex .f32 t498.re t498.im] 39 (0, 0)) (bu BK500.out) hb)
                    have n3_ := Aside0.mk (blk_below (g := gb507) (o := .cells #[.complex .f32 t504.re t504.im, .complex .f32 t505.re t505.im, .complex .f32 t506.re t506.im] 39 (0, 0)) (bu BK507.out) hb)
                    have n4_ := Aside0.mk (blk_below (g := gb520) (o := .cells #[.complex .f32 t516.re t516.im, .complex .f32 t517.re t517.im, .complex .f32 t518.re t518.im] 80 (0, 0)) (bu BK520.out) hb)
                    have n5_ := Aside0.mk (blk_below (g := gb525) (o := .cells #[.complex .f32 t521.re t521.im, .complex .f32 t522.re t522.im, .complex .f32 t523.re t523.im] 39 (0, 0)) (bu BK525.out) hb)
                    have n6_ := Aside0.mk (below_step tb hb)
                    clear HO_476003
                    clear BK475
                    clear BK500
                    clear BK507
                    clear BK520
                    clear BK525
                    clear HB
                    have HO_476003 := n0_
                    have BK475 := n1_
                    have BK500 := n2_
                    have BK507 := n3_
                    have BK520 := n4_
                    have BK525 := n5_
                    have HB := n6_
                    clear n0_ n1_ n2_ n3_ n4_ n5_ n6_
                    (try clear hb)
                    (try clear hb2)
                    (try clear hk)
                    (try clear hi)
                    refine hK.out _ _ ⟨(blk_cell BK500.out 0).trans rfl, (blk_cell BK500.out 1).trans rfl, (blk_cell BK500.out 2).trans rfl, (blk_cell BK507.out 0).trans rfl, (blk_cell BK507.out 1).trans rfl, (blk_cell BK507.out 2).trans rfl, (blk_cell BK525.out 0).trans rfl, (blk_cell BK525.out 1).trans rfl, (blk_cell BK525.out 2).trans rfl, (blk_cell BK520.out 0).trans rfl, (blk_cell BK520.out 1).trans rfl, (blk_cell BK520.out 2).trans rfl⟩ (fun hHeld => ?_)
                    clear hK K
                    refine norm_ (a' := ?_) ?_ ?_
                    rotate_left
                    ·show Act.put _ (some 219) _ = _
                     refine ps_ ?_
                     rfl
                    refine one_ (i := 38) (N := some 220) #[true, true, true, true, true, true, true, true, true, true, true, true, true, true, true, true, true, true, true, true, true, true, true, true, true, true, true, true, true, true, true, true, true, true, true, true, true, true, true, false, false, false, false, false, false, false] rfl rfl (one_of HT_.out (by kernel_rfl)) (by decide) (fun K hK => ?_)
                    refine goes_ Try.func51 (by kernel_rfl) rfl #[.agg #[.complex .f32 t521.re t521.im, .complex .f32 t522.re t522.im, .complex .f32 t523.re t523.im], .agg #[.complex .f32 t529.re t529.im, .complex .f32 t530.re t530.im, .complex .f32 t531.re t531.im]] (by rfl) rfl rfl mp_ ?_
                    with_reducible refine (impl_SamePhases.calls kj42 t521 t522 t523 t529 t530 t531 true _ A76.out).mono ?_
                    rintro e w115 ⟨rfl, hb⟩
                    refine ⟨_, rfl, ?_⟩
                    have n0_ := Aside0.mk (Kd.R_below (ru HO_476003.out) hb)
                    have n1_ := Aside0.mk (blk_below (g := gb475) (o := .cells #[.complex .f32 t469.re t469.im, .complex .f32 t470.re t470.im, .complex .f32 t471.re t471.im, .slice Ao15 t472.length co15] 42 (0, 0)) (bu BK475.out) hb)
                    have n2_ := Aside0.mk (blk_below (g := gb500) (o := .cells #[.complex .f32 t496.re t496.im, .complex .f32 t497.re t497.im, .complex .f32 t498.re t498.im] 39 (0, 0)) (bu BK500.out) hb)
                    have n3_ := Aside0.mk (blk_below (g := gb507) (o := .cells #[.complex .f32 t504.re t504.im, .complex .f32 t505.re t505.im, .complex .f32 t506.re t506.im] 39 (0, 0)) (bu BK507.out) hb)
                    have n4_ := Aside0.mk (blk_below (g := gb520) (o := .cells #[.complex .f32 t516.re t516.im, .complex .f32 t517.re t517.im, .complex .f32 t518.re t518.im] 80 (0, 0)) (bu BK520.out) hb)
                    have n5_ := Aside0.mk (blk_below (g := gb525) (o := .cells #[.complex .f32 t521.re t521.im, .complex .f32 t522.re t522.im, .complex .f32 t523.re t523.im] 39 (0, 0)) (bu BK525.out) hb)
                    have n6_ := Aside0.mk (below_step tb hb)
                    clear HO_476003
                    clear BK475
                    clear BK500
                    clear BK507
                    clear BK520
                    clear BK525
                    clear HB
                    have HO_476003 := n0_
                    have BK475 := n1_
                    have BK500 := n2_
                    have BK507 := n3_
                    have BK520 := n4_
                    have BK525 := n5_
                    have HB := n6_
                    clear n0_ n1_ n2_ n3_ n4_ n5_ n6_
                    (try clear hb)
                    (try clear hb2)
                    (try clear hk)
                    (try clear hi)
                    refine hK.out _ _ ⟨(blk_cell BK500.out 0).trans rfl, (blk_cell BK500.out 1).trans rfl, (blk_cell BK500.out 2).trans rfl, (blk_cell BK507.out 0).trans rfl, (blk_cell BK507.out 1).trans rfl, (blk_cell BK507.out 2).trans rfl, (blk_cell BK525.out 0).trans rfl, (blk_cell BK525.out 1).trans rfl, (blk_cell BK525.out 2).trans rfl, (blk_cell BK520.out 0).trans rfl, (blk_cell BK520.out 1).trans rfl, (blk_cell BK520.out 2).trans rfl⟩ (fun hHeld => ?_)
                    clear hK K
                    refine norm_ (a' := ?_) ?_ ?_
                    rotate_left
                    ·show Act.put _ (some 220) _ = _
                     refine ps_ ?_
                     rfl
                    refine pure_ (i := 39) (N := some 221) (v := ?_) (a' := ?_) #[true, true, true, true, true, true, true, true, true, true, true, true, true, true, true, true, true, true, true, true, true, true, true, true, true, true, true, true, true, true, true, true, true, true, true, true, true, true, true, true, false, false, false, false, false, false] rfl rfl (any_of HT_.out (by kernel_rfl)) (fun _ _ _ h => h) (Or.inl ⟨by rfl, ?_⟩) ?_ ?_
                    rotate_left
                    ·intro w'
                     go_simp
                     with_reducible rfl
                    rotate_left
                    ·refine ps_ ?_
                     rfl
                    refine pure_ (i := 40) (N := some 222) (v := ?_) (a' := ?_) #[true, true, true, true, true, true, true, true, true, true, true, true, true, true, true, true, true, true, true, true, true, true, true, true, true, true, true, true, true, true, true, true, true, true, true, true, true, true, true, true, true, false, false, false, false, false] rfl rfl (any_of HT_.out (by kernel_rfl)) (fun _ _ _ h => h) (Or.inl ⟨by rfl, ?_⟩) ?_ ?_
                    rotate_left
                    ·intro w'
                     go_simp
                     with_reducible rfl
                    rotate_left
                    ·refine ps_ ?_
                     rfl
                    refine take_ (i := 41) (N := some 223) (v := ?_) (a' := ?_) #[true, true, true, true, true, true, true, true, true, true, true, true, true, true, true, true, true, true, true, true, true, true, true, true, true, true, true, true, true, true, true, true, true, true, true, true, true, true, true, true, true, true, false, false, false, false] rfl rfl (take_ofW HT_.out HW_.out (by kernel_rfl)) (fun _ _ _ h => h) (Or.inl ⟨by rfl, ?_⟩) hHeld ?_ ?_
                    rotate_left
                    ·rintro w' ⟨s0, s1, s2, s3, s4, s5, s6, s7, s8, s9, s10, s11⟩
                     go_simp
                     with_reducible rfl
                    rotate_left
                    ·refine ps_ ?_
                     rfl
                    refine take_ (i := 42) (N := some 224) (v := ?_) (a' := ?_) #[true, true, true, true, true, true, true, true, true, true, true, true, true, true, true, true, true, true, true, true, true, true, true, true, true, true, true, true, true, true, true, true, true, true, true, true, true, true, true, true, true, true, true, false, false, false] rfl rfl (take_ofW HT_.out HW_.out (by kernel_rfl)) (fun _ _ _ h => h) (Or.inl ⟨by rfl, ?_⟩) hHeld ?_ ?_
                    rotate_left
                    ·rintro w' ⟨s0, s1, s2, s3, s4, s5, s6, s7, s8, s9, s10, s11⟩
                     go_simp
                     with_reducible rfl
                    rotate_left
                    ·refine ps_ ?_
                     rfl
                    refine one_ (i := 43) (N := some 225) #[true, true, true, true, true, true, true, true, true, true, true, true, true, true, true, true, true, true, true, true, true, true, true, true, true, true, true, true, true, true, true, true, true, true, true, true, true, true, true, true, true, true, true, true, false, false] rfl rfl (one_of HT_.out (by kernel_rfl)) (by decide) (fun K hK => ?_)
                    refine goes_ Try.func52 (by kernel_rfl) rfl #[.agg #[.complex .f32 t516.re t516.im, .complex .f32 t517.re t517.im, .complex .f32 t518.re t518.im], .agg #[.complex .f32 t516.re t516.im, .complex .f32 t517.re t517.im, .complex .f32 t518.re t518.im]] (by rfl) rfl rfl mp_ ?_
                    with_reducible refine (impl_SameParts.calls kj42 t516 t517 t518 t516 t517 t518 t533 _ A78.out).mono ?_
                    rintro e w116 ⟨rfl, hb⟩
                    refine ⟨_, rfl, ?_⟩
                    have n0_ := Aside0.mk (Kd.R_below (ru HO_476003.out) hb)
                    have n1_ := Aside0.mk (blk_below (g := gb475) (o := .cells #[.complex .f32 t469.re t469.im, .complex .f32 t470.re t470.im, .complex .f32 t471.re t471.im, .slice Ao15 t472.length co15] 42 (0, 0)) (bu BK475.out) hb)
                    have n2_ := Aside0.mk (blk_below (g := gb500) (o := .cells #[.complex .f32 t496.re t496.im, .complex .f32 t497.re t497.im, .complex .f32 t498.re t498.im] 39 (0, 0)) (bu BK500.out) hb)
                    have n3_ := Aside0.mk (blk_below (g := gb507) (o := .cells #[.complex .f32 t504.re t504.im, .complex .f32 t505.re t505.im, .complex .f32 t506.re t506.im] 39 (0, 0)) (bu BK507.out) hb)
                    have n4_ := Aside0.mk (blk_below (g := gb520) (o := .cells #[.complex .f32 t516.re t516.im, .complex .f32 t517.re t517.im, .complex .f32 t518.re t518.im] 80 (0, 0)) (bu BK520.out) hb)
                    have n5_ := Aside0.mk (blk_below (g := gb525) (o := .cells #[.complex .f32 t521.re t521.im, .complex .f32 t522.re t522.im, .complex .f32 t523.re t523.im] 39 (0, 0)) (bu BK525.out) hb)
                    have n6_ := Aside0.mk (below_step tb hb)
                    clear HO_476003
                    clear BK475
                    clear BK500
                    clear BK507
                    clear BK520
                    clear BK525
                    clear HB
                    have HO_476003 := n0_
                    have BK475 := n1_
                    have BK500 := n2_
                    have BK507 := n3_
                    have BK520 := n4_
                    have BK525 := n5_
                    have HB := n6_
                    clear n0_ n1_ n2_ n3_ n4_ n5_ n6_
                    (try clear hb)
                    (try clear hb2)
                    (try clear hk)
                    (try clear hi)
                    refine hK.out _ _ ⟨(blk_cell BK500.out 0).trans rfl, (blk_cell BK500.out 1).trans rfl, (blk_cell BK500.out 2).trans rfl, (blk_cell BK507.out 0).trans rfl, (blk_cell BK507.out 1).trans rfl, (blk_cell BK507.out 2).trans rfl, (blk_cell BK525.out 0).trans rfl, (blk_cell BK525.out 1).trans rfl, (blk_cell BK525.out 2).trans rfl, (blk_cell BK520.out 0).trans rfl, (blk_cell BK520.out 1).trans rfl, (blk_cell BK520.out 2).trans rfl⟩ (fun hHeld => ?_)
                    clear hK K
                    refine norm_ (a' := ?_) ?_ ?_
                    rotate_left
                    ·show Act.put _ (some 225) _ = _
                     refine ps_ ?_
                     rfl
                    refine pure_ (i := 44) (N := some 226) (v := ?_) (a' := ?_) #[true, true, true, true, true, true, true, true, true, true, true, true, true, true, true, true, true, true, true, true, true, true, true, true, true, true, true, true, true, true, true, true, true, true, true, true, true, true, true, true, true, true, true, true, true, false] rfl rfl (any_of HT_.out (by kernel_rfl)) (fun _ _ _ h => h) (Or.inl ⟨by rfl, ?_⟩) ?_ ?_
                    rotate_left
                    ·intro w'
                     go_simp
                     with_reducible rfl
                    rotate_left
                    ·refine ps_ ?_
                     rfl
                    refine pure_ (i := 45) (N := some 4) (v := ?_) (a' := ?_) #[true, true, true, true, true, true, true, true, true, true, true, true, true, true, true, true, true, true, true, true, true, true, true, true, true, true, true, true, true, true, true, true, true, true, true, true, true, true, true, true, true, true, true, true, true, true] rfl rfl (any_of HT_.out (by kernel_rfl)) (fun _ _ _ h => h) (Or.inl ⟨by rfl, ?_⟩) ?_ ?_
                    rotate_left
                    ·intro w'
                     go_simp
                     with_reducible rfl
                    rotate_left
                    ·refine ps_ ?_
                     rfl
                    refine done_ (done_of HT_.out (by kernel_rfl)) ?_
                    try go_wp2
                    go_ret
                    exact ⟨re_, tb⟩
                  ·replace c77 := Bool.eq_false_iff.mpr c77
                   subst c77
                   have H1 : (some false) = some r := by rw [if_neg (show ¬ (false = true) by decide)] at H; exact H
                   clear H
                   have H := H1
                   clear H1
                   exact absurd (H.trans (congrArg some hlaw)) (by decide)
                 ·rw [if_neg c74] at H
                  have c74b0 : (flt .f64 t528 4562254508917369340) = false := by simpa using c74
                  clear c74
                  exact absurd (H.trans (congrArg some hlaw)) (by decide)
                ·rw [if_neg c72] at H
                 have c72b0 : (flt .f64 t527 4562254508917369340) = false := by simpa using c72
                 clear c72
                 exact absurd (H.trans (congrArg some hlaw)) (by decide)
               ·rw [if_neg c70] at H
                have c70b0 : (flt .f64 t526 4562254508917369340) = false := by simpa using c70
                clear c70
                exact absurd (H.trans (congrArg some hlaw)) (by decide)
              ·replace c68 := Bool.eq_false_iff.mpr c68
               subst c68
               have H1 : (some false) = some r := by rw [if_neg (show ¬ (false = true) by decide)] at H; exact H
               clear H
               have H := H1
               clear H1
               exact absurd (H.trans (congrArg some hlaw)) (by decide)
             ·replace c67 := Bool.eq_false_iff.mpr c67
              subst c67
              have H1 : (some false) = some r := by rw [if_neg (show ¬ (false = true) by decide)] at H; exact H
              clear H
              have H := H1
              clear H1
              exact absurd (H.trans (congrArg some hlaw)) (by decide)
            ·replace c66 := Bool.eq_false_iff.mpr c66
             subst c66
             have H1 : (some false) = some r := by rw [if_neg (show ¬ (false = true) by decide)] at H; exact H
             clear H
             have H := H1
             clear H1
             exact absurd (H.trans (congrArg some hlaw)) (by decide)
           ·replace c65 := Bool.eq_false_iff.mpr c65
            subst c65
            have H1 : (some false) = some r := by rw [if_neg (show ¬ (false = true) by decide)] at H; exact H
            clear H
            have H := H1
            clear H1
            exact absurd (H.trans (congrArg some hlaw)) (by decide)

/-- THE ONE PURE STATEMENT of laws_FnCommon: yours. -/
def laws_FnCommon.Pure : Prop := ∀ (l0 : List Int) (l1 : List Int), l0.length ≤ maxLen → l0.length * 1 ≤ 140737488351232 → (∀ x ∈ l0, (Lit.int .u8 x).wf = true) → l1.length ≤ maxLen → l1.length * 1 ≤ 140737488351232 → (∀ x ∈ l1, (Lit.int .u8 x).wf = true) → ∃ k, laws_FnCommon.f k l0 l1 = some true
theorem laws_FnCommon.walk (P : laws_FnCommon.Pure) (a0 : Option Addr) (len0 cap0 : Nat) (z0 : List Int) (a1 : Option Addr) (len1 cap1 : Nat) (z1 : List Int) (w : World) (w0 : (a0 = none ∧ len0 = 0 ∧ cap0 = 0 ∧ z0 = []) ∨ ∃ x, a0 = some x ∧ len0 ≤ cap0 ∧ cap0 ≤ maxLen ∧ z0.length = cap0 ∧ (∀ i, i < z0.length → w.cell? (x.add i) = some (.int .u8 (z0.getD i 0))) ∧ ∀ n ∈ z0, (Lit.int .u8 n).wf = true) (y0 : len0 * 1 ≤ 140737488351232) (w1 : (a1 = none ∧ len1 = 0 ∧ cap1 = 0 ∧ z1 = []) ∨ ∃ x, a1 = some x ∧ len1 ≤ cap1 ∧ cap1 ≤ maxLen ∧ z1.length = cap1 ∧ (∀ i, i < z1.length → w.cell? (x.add i) = some (.int .u8 (z1.getD i 0))) ∧ ∀ n ∈ z1, (Lit.int .u8 n).wf = true) (y1 : len1 * 1 ≤ 140737488351232) :
  Calls Try.prog 6 #[.slice a0 len0 cap0, .slice a1 len1 cap1] w fun e w' => e = .returned (.bool true) ∧ Below w.heap.size w w' := by
 obtain ⟨l0, rfl, hr0, hm0, hw0, hc0⟩ := ReadsInt.ofRowC w0
 obtain ⟨l1, rfl, hr1, hm1, hw1, hc1⟩ := ReadsInt.ofRowC w1
 obtain ⟨k, h⟩ := P l0 l1 hm0 y0 hw0 hm1 y1 hw1
 refine (laws_FnCommon.calls k _ _ l0 _ _ l1 true w (Kd.C_of_reads (d := (0 : Int)) (h1 := fun _ => rfl) hr0) hc0 (Kd.C_of_reads (d := (0 : Int)) (h1 := fun _ => rfl) hr1) hc1 h rfl).mono ?_
 rintro e w' ⟨rfl, hd⟩
 exact ⟨rfl, hd⟩

end Go.Proofs.Ytcgpomicgbmdlaa.PFnCommon
