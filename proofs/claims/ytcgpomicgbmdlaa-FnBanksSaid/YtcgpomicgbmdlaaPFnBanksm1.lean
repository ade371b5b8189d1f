-- Words and walks of the print, as far as this claim uses them (laid by wip/mkclaim.py of this session). Lean checks it.
import Derived.Test.YtcgpomicgbmdlaaFl
import Derived.Test.YtcgpomicgbmdlaaPFnBanksm0
namespace Go.Proofs.Ytcgpomicgbmdlaa.PFnBanks
open Go.RowKit Go.Proofs.YtcgpomicgbmdlaaW.PrintWords Go.Proofs.YtcgpomicgbmdlaaW.PrintLast Go.Proofs.YtcgpomicgbmdlaaW.PrintMore
attribute [local go_sem] max2_int min2_int max_two min_two max_three min_three max_four min_four   -- for this text's walks alone
set_option linter.unusedVariables false
set_option linter.unusedSimpArgs false

/-! ### spec_l02Even: function 89 -/
def spec_l02Even.f (k : Nat) (a0 : Cx) : Option (Cx × Cx × Cx) := (spec_l01Phasor.f k (fneg .f64 4599676419421066581)).bind fun t130 => ((spec_l01Mul.f a0 t130).bind fun t131 => ((spec_l01Phasor.f k 4599676419421066581).bind fun t132 => ((spec_l01Mul.f a0 t132).bind fun t133 => (some (a0, t131, t133)))))
theorem spec_l02Even.mono : ∀ a0 k, LeO (spec_l02Even.f k a0) (spec_l02Even.f (k + 1) a0) := by
 intro a0 k
 unfold spec_l02Even.f
 repeat' first
   | (with_reducible exact spec_l01Phasor.mono _ _)
   | (with_reducible exact LeO.refl _)
   | (with_reducible exact LeO.none _)
   | (with_reducible refine LeO.ite ?_ ?_)
   | (with_reducible refine LeO.bind ?_ (fun _ => ?_))
   | exact spec_l01Phasor.mono _ _
   | exact LeO.none _
   | refine LeO.ite ?_ ?_
   | refine LeO.bind ?_ (fun _ => ?_)
set_option maxHeartbeats 8000000 in
set_option maxRecDepth 100000 in
theorem spec_l02Even.calls (k : Nat) (a0 : Cx) (r1 : Cx) (r2 : Cx) (r3 : Cx) (w : World) (h : spec_l02Even.f k a0 = some (r1, r2, r3)) :
  Calls Try.prog 89 #[.complex .f32 a0.re a0.im] w fun e w' => e = .returned (.agg #[.complex .f32 r1.re r1.im, .complex .f32 r2.re r2.im, .complex .f32 r3.re r3.im]) ∧ Below w.heap.size w w' := by
 have hu39 := Try.underlying39
 have HB := Aside0.mk (Below.refl w.heap.size w)
 have H : ((spec_l01Phasor.f k (fneg .f64 4599676419421066581)).bind fun t130 => ((spec_l01Mul.f a0 t130).bind fun t131 => ((spec_l01Phasor.f k 4599676419421066581).bind fun t132 => ((spec_l01Mul.f a0 t132).bind fun t133 => (some (a0, t131, t133)))))) = some (r1, r2, r3) := h
 clear h
 replace H := Option.bind_eq_some_iff.mp H
 obtain ⟨t130, A20, H⟩ := H
 try dsimp only at H
 have A2 := Aside0.mk A20
 clear A20
 replace H := Option.bind_eq_some_iff.mp H
 obtain ⟨t131, A30, H⟩ := H
 try dsimp only at H
 have A3 := Aside0.mk A30
 clear A30
 replace H := Option.bind_eq_some_iff.mp H
 obtain ⟨t132, A40, H⟩ := H
 try dsimp only at H
 have A4 := Aside0.mk A40
 clear A40
 replace H := Option.bind_eq_some_iff.mp H
 obtain ⟨t133, A50, H⟩ := H
 try dsimp only at H
 have A5 := Aside0.mk A50
 clear A50
 simp only [Option.some.injEq, Prod.mk.injEq] at H
 obtain ⟨rfl, rfl, rfl⟩ := H
 go_enter Try.func89, Try.ntmps89
 go_wp2_with (first | ((with_reducible refine gate_dst (N := 2) rfl ?_); refine box_event ?hg (N := 2) ?hd (cs := #[.complex .f32 0 0, .complex .f32 0 0, .complex .f32 0 0]) (t := 39) ?hr ?_; (case hd => rfl); (case hg => rfl); (case hr => first | (go_simp; done) | (go_simp; rfl)); intro gb129 hg w6 hbox hb; have n0_ := Aside0.mk (below_step tb hb); have n1_ := Aside0.mk (hbox); have n2_ := Aside0.mk ((by rw [hg]; exact (below_size tb) : w.heap.size ≤ gb129)); have n3_ := Aside0.mk ((by rw [hg]; exact (below_size tb) : w.heap.size ≤ gb129)); clear HB; have HB := n0_; have BK129 := n1_; have GW129 := n2_; have GE129 := n3_; clear n0_ n1_ n2_ n3_; clear hb hbox hg) | ((with_reducible refine gate_callee (f := 138) rfl ?_); refine gx_ (some 8) Try.func138 #[.float .f64 (fneg .f64 4599676419421066581)] ?_; (with_reducible refine (spec_l01Phasor.calls k (fneg .f64 4599676419421066581) t130 _ A2.out).mono ?_); rintro e w7 ⟨rfl, hb⟩; refine ⟨_, rfl, ?_⟩; have n0_ := Aside0.mk (blk_below (g := gb129) (o := .cells #[.complex .f32 0 0, .complex .f32 0 0, .complex .f32 0 0] 39 (0, 0)) (bu BK129.out) hb); have n1_ := Aside0.mk (below_step tb hb); clear BK129; clear HB; have BK129 := n0_; have HB := n1_; clear n0_ n1_; (try clear hb); (try clear hb2); (try clear hk); (try clear hi)) | ((with_reducible refine gate_callee (f := 67) rfl ?_); refine gx_ (some 9) Try.func67 #[.complex .f32 a0.re a0.im, .complex .f32 t130.re t130.im] ?_; (with_reducible refine (spec_l01Mul.calls a0 t130 t131 _ A3.out).mono ?_); rintro e w8 ⟨rfl, hb⟩; refine ⟨_, rfl, ?_⟩; have n0_ := Aside0.mk (blk_below (g := gb129) (o := .cells #[.complex .f32 0 0, .complex .f32 0 0, .complex .f32 0 0] 39 (0, 0)) (bu BK129.out) hb); have n1_ := Aside0.mk (below_step tb hb); clear BK129; clear HB; have BK129 := n0_; have HB := n1_; clear n0_ n1_; (try clear hb); (try clear hb2); (try clear hk); (try clear hi)) | ((with_reducible refine gate_callee (f := 138) rfl ?_); refine gx_ (some 12) Try.func138 #[.float .f64 4599676419421066581] ?_; (with_reducible refine (spec_l01Phasor.calls k 4599676419421066581 t132 _ A4.out).mono ?_); rintro e w9 ⟨rfl, hb⟩; refine ⟨_, rfl, ?_⟩; have n0_ := Aside0.mk (blk_below (g := gb129) (o := .cells #[.complex .f32 0 0, .complex .f32 0 0, .complex .f32 0 0] 39 (0, 0)) (bu BK129.out) hb); have n1_ := Aside0.mk (below_step tb hb); clear BK129; clear HB; have BK129 := n0_; have HB := n1_; clear n0_ n1_; (try clear hb); (try clear hb2); (try clear hk); (try clear hi)) | ((with_reducible refine gate_callee (f := 67) rfl ?_); refine gx_ (some 13) Try.func67 #[.complex .f32 a0.re a0.im, .complex .f32 t132.re t132.im] ?_; (with_reducible refine (spec_l01Mul.calls a0 t132 t133 _ A5.out).mono ?_); rintro e w10 ⟨rfl, hb⟩; refine ⟨_, rfl, ?_⟩; have n0_ := Aside0.mk (blk_below (g := gb129) (o := .cells #[.complex .f32 0 0, .complex .f32 0 0, .complex .f32 0 0] 39 (0, 0)) (bu BK129.out) hb); have n1_ := Aside0.mk (below_step tb hb); clear BK129; clear HB; have BK129 := n0_; have HB := n1_; clear n0_ n1_; (try clear hb); (try clear hb2); (try clear hk); (try clear hi); have hcz11_0 : w10.cell? ⟨gb129, 0, none⟩ = some (.complex .f32 0 0) := (blk_cell BK129.out 0).trans rfl; have hcz11_1 : w10.cell? ⟨gb129, 1, none⟩ = some (.complex .f32 0 0) := (blk_cell BK129.out 1).trans rfl; have hcz11_2 : w10.cell? ⟨gb129, 2, none⟩ = some (.complex .f32 0 0) := (blk_cell BK129.out 2).trans rfl; have hfz11_0 := blk_frozen BK129.out 0; have hfz11_1 := blk_frozen BK129.out 1; have hfz11_2 := blk_frozen BK129.out 2))
 refine bodyPost_ret (results_cell_row rfl _ _ gb129 39 #[.complex .f32 a0.re a0.im, .complex .f32 t131.re t131.im, .complex .f32 t133.re t133.im] (0, 0) _ rfl (by refine bu ?_; refine blk_put (cs := #[.complex .f32 a0.re a0.im, .complex .f32 t131.re t131.im, .complex .f32 0 0]) ?_ 2 _ rfl; refine bu ?_; refine blk_put (cs := #[.complex .f32 a0.re a0.im, .complex .f32 0 0, .complex .f32 0 0]) ?_ 1 _ rfl; refine bu ?_; refine blk_put (cs := #[.complex .f32 0 0, .complex .f32 0 0, .complex .f32 0 0]) ?_ 0 _ rfl; refine bu ?_; exact BK129.out) Try.underlying39 rfl (by kernel_rfl)) rfl ?_
 exact ⟨re_, tb⟩

end Go.Proofs.Ytcgpomicgbmdlaa.PFnBanks
namespace Go.Proofs.Ytcgpomicgbmdlaa.PFnBanks
open Go.RowKit Go.Proofs.YtcgpomicgbmdlaaW.PrintWords Go.Proofs.YtcgpomicgbmdlaaW.PrintLast Go.Proofs.YtcgpomicgbmdlaaW.PrintMore
attribute [local go_sem] max2_int min2_int max_two min_two max_three min_three max_four min_four   -- for this text's walks alone
set_option linter.unusedVariables false
set_option linter.unusedSimpArgs false

/-! ### spec_B10Mild: function 31 -/
def spec_B10Mild.l0 : Nat → Int → List Int → Int → Int → Cx → Cx → Cx → List (S66) → Option (Cx × Cx × Cx × (List (S66)))
 | 0, _, _, _, _, _, _, _, _ => none
 | k + 1, x5, x139000, x139001, x139002, x149000, x149001, x149002, x149003 => if x5 > 0 then ((spec_l00Src_pick.f x139000 x139001 x139002 (x149003.length : Int)).bind fun bt152 => ((spec_l00Src_pick.f x139000 bt152.2.1 bt152.2.2 4).bind fun bt156 => (if fok .quo .f32 (floatOfInt .f32 (wrap64 (1 + bt156.1))) 1115684864 = true then ((spec_l00Src_pick.f x139000 bt156.2.1 bt156.2.2 4).bind fun bt159 => (if fok .quo .f32 (floatOfInt .f32 bt159.1) 1115684864 = true then ((spec_l00Src_pick.f x139000 bt159.2.1 bt159.2.2 2).bind fun bt162 => ((spec_l00Src_pick.f x139000 bt162.2.1 bt162.2.2 9).bind fun bt165 => (if fok .quo .f32 (floatOfInt .f32 bt165.1) 1082130432 = true then ((spec_l00Src_pick.f x139000 bt165.2.1 bt165.2.2 3).bind fun bt168 => (if fok .quo .f32 (floatOfInt .f32 bt168.1) 1082130432 = true then ((spec_l00Src_pick.f x139000 bt168.2.1 bt168.2.2 9).bind fun bt171 => (if fok .quo .f32 (floatOfInt .f32 bt171.1) 1082130432 = true then ((spec_l00Src_pick.f x139000 bt171.2.1 bt171.2.2 9).bind fun bt174 => (if fok .quo .f32 (floatOfInt .f32 bt174.1) 1082130432 = true then ((spec_l00Src_pick.f x139000 bt174.2.1 bt174.2.2 30).bind fun bt177 => (if x149003.length < 2199023255552 then (spec_B10Mild.l0 k (wrap64 (x5 - 1)) x139000 bt177.2.1 bt177.2.2 x149000 x149001 x149002 (x149003 ++ [(⟨bt152.1, (⟨fv .quo .f32 (floatOfInt .f32 (wrap64 (1 + bt156.1))) 1115684864, fv .quo .f32 (floatOfInt .f32 bt159.1) 1115684864⟩ : Cx), (⟨0, 0⟩ : Cx), bt162.1, (⟨(⟨fv .quo .f32 (floatOfInt .f32 bt165.1) 1082130432, fv .quo .f32 (floatOfInt .f32 bt168.1) 1082130432⟩ : Cx), (⟨fv .quo .f32 (floatOfInt .f32 bt171.1) 1082130432, 0⟩ : Cx), (⟨fv .quo .f32 (floatOfInt .f32 bt174.1) 1082130432, 0⟩ : Cx)⟩ : S39), bt177.1⟩ : S66)])) else (none))) else (none))) else (none))) else (none))) else (none)))) else (none))) else (none)))) else (some (x149000, x149001, x149002, x149003))
def spec_B10Mild.f (k : Nat) (l0 : List Int) : Option (Cx × Cx × Cx × (List (S66))) := (spec_l00From.f l0).bind fun bt135 => ((spec_l00Src_pick.f bt135.1 bt135.2.1 bt135.2.2 16).bind fun bt139 => ((spec_l02Even.f k (⟨floatOfInt .f32 (wrap64 (16 + bt139.1)), 0⟩ : Cx)).bind fun bt142 => ((spec_l00Src_pick.f bt135.1 bt139.2.1 bt139.2.2 5).bind fun bt149 => (spec_B10Mild.l0 k (wrap64 (1 + bt149.1)) bt135.1 bt149.2.1 bt149.2.2 bt142.1 bt142.2.1 bt142.2.2 (([(⟨(-1), (⟨0, 0⟩ : Cx), (⟨0, 0⟩ : Cx), 0, (⟨(⟨0, 0⟩ : Cx), (⟨0, 0⟩ : Cx), (⟨0, 0⟩ : Cx)⟩ : S39), 0⟩ : S66)] : List (S66)))))))
theorem spec_B10Mild.mono_l : ∀ k, (∀ y0 y1 y2 y3 y4 y5 y6 y7, LeO (spec_B10Mild.l0 k y0 y1 y2 y3 y4 y5 y6 y7) (spec_B10Mild.l0 (k + 1) y0 y1 y2 y3 y4 y5 y6 y7))
 | 0 => fun _ _ _ _ _ _ _ _ r h => by simp [spec_B10Mild.l0] at h
 | k + 1 => by
  have ih0 := spec_B10Mild.mono_l k
  ·intro y0 y1 y2 y3 y4 y5 y6 y7
   unfold spec_B10Mild.l0
   repeat' first
   | (with_reducible exact ih0 _ _ _ _ _ _ _ _)
   | (with_reducible exact spec_l02Even.mono _ _)
   | (with_reducible exact LeO.refl _)
   | (with_reducible exact LeO.none _)
   | (with_reducible refine LeO.ite ?_ ?_)
   | (with_reducible refine LeO.bind ?_ (fun _ => ?_))
   | exact ih0 _ _ _ _ _ _ _ _
   | exact spec_l02Even.mono _ _
   | exact LeO.none _
   | refine LeO.ite ?_ ?_
   | refine LeO.bind ?_ (fun _ => ?_)
theorem spec_B10Mild.mono : ∀ a0 k, LeO (spec_B10Mild.f k a0) (spec_B10Mild.f (k + 1) a0) := by
 intro a0 k
 have ih0 := spec_B10Mild.mono_l k
 unfold spec_B10Mild.f
 repeat' first
   | (with_reducible exact ih0 _ _ _ _ _ _ _ _)
   | (with_reducible exact spec_l02Even.mono _ _)
   | (with_reducible exact LeO.refl _)
   | (with_reducible exact LeO.none _)
   | (with_reducible refine LeO.ite ?_ ?_)
   | (with_reducible refine LeO.bind ?_ (fun _ => ?_))
   | exact ih0 _ _ _ _ _ _ _ _
   | exact spec_l02Even.mono _ _
   | exact LeO.none _
   | refine LeO.ite ?_ ?_
   | refine LeO.bind ?_ (fun _ => ?_)
set_option maxHeartbeats 8000000 in
set_option maxRecDepth 100000 in
theorem spec_B10Mild.calls (k : Nat) (A0 : Option Addr) (c0 : Nat) (l0 : List Int) (r1 : Cx) (r2 : Cx) (r3 : Cx) (r4 : List (S66)) (w : World) (hr0 : Kd.C (Kd.int .u8) w A0 l0.length l0) (hc0 : l0.length ≤ c0) (h : spec_B10Mild.f k l0 = some (r1, r2, r3, r4)) :
  Calls Try.prog 31 #[.slice A0 l0.length c0] w fun e w' => ∃ v3_ : Value, e = .returned (.agg #[.complex .f32 r1.re r1.im, .complex .f32 r2.re r2.im, .complex .f32 r3.re r3.im, v3_]) ∧ Kd.R k66 66 w' w.heap.size (fun _ => True) v3_ r4 ∧ Below w.heap.size w w' := by
 have hu42 := Try.underlying42
 have hu66 := Try.underlying66
 have HR0 := Aside0.mk hr0
 have HC0 := Aside0.mk hc0
 clear hr0 hc0
 have HB := Aside0.mk (Below.refl w.heap.size w)
 have H : ((spec_l00From.f l0).bind fun bt135 => ((spec_l00Src_pick.f bt135.1 bt135.2.1 bt135.2.2 16).bind fun bt139 => ((spec_l02Even.f k (⟨floatOfInt .f32 (wrap64 (16 + bt139.1)), 0⟩ : Cx)).bind fun bt142 => ((spec_l00Src_pick.f bt135.1 bt139.2.1 bt139.2.2 5).bind fun bt149 => (spec_B10Mild.l0 k (wrap64 (1 + bt149.1)) bt135.1 bt149.2.1 bt149.2.2 bt142.1 bt142.2.1 bt142.2.2 (([(⟨(-1), (⟨0, 0⟩ : Cx), (⟨0, 0⟩ : Cx), 0, (⟨(⟨0, 0⟩ : Cx), (⟨0, 0⟩ : Cx), (⟨0, 0⟩ : Cx)⟩ : S39), 0⟩ : S66)] : List (S66)))))))) = some (r1, r2, r3, r4) := h
 clear h
 replace H := Option.bind_eq_some_iff.mp H
 obtain ⟨⟨t135, t136, t137⟩, A20, H⟩ := H
 try dsimp only at H
 have A2 := Aside0.mk A20
 clear A20
 replace H := Option.bind_eq_some_iff.mp H
 obtain ⟨⟨t139, t140, t141⟩, A30, H⟩ := H
 try dsimp only at H
 have A3 := Aside0.mk A30
 clear A30
 replace H := Option.bind_eq_some_iff.mp H
 obtain ⟨⟨t142, t143, t144⟩, A40, H⟩ := H
 try dsimp only at H
 have A4 := Aside0.mk A40
 clear A40
 obtain ⟨y145, hy145⟩ : ∃ y_ : List (S66), y_ = (([(⟨(-1), (⟨0, 0⟩ : Cx), (⟨0, 0⟩ : Cx), 0, (⟨(⟨0, 0⟩ : Cx), (⟨0, 0⟩ : Cx), (⟨0, 0⟩ : Cx)⟩ : S39), 0⟩ : S66)] : List (S66))) := ⟨_, rfl⟩
 replace H : ((spec_l00Src_pick.f t135 t140 t141 5).bind fun bt149 => (spec_B10Mild.l0 k (wrap64 (1 + bt149.1)) t135 bt149.2.1 bt149.2.2 t142 t143 t144 y145)) = some (r1, r2, r3, r4) := by first | (rw [hy145]; with_reducible exact H) | (have H2_ := (Option.bind_some _ _).symm.trans H; rw [hy145]; with_reducible exact H2_) | (have H2_ := (Option.bind_some _ _).symm.trans H; with_reducible exact H2_) | with_reducible exact H | (rw [hy145]; exact H) | exact H
 have Ny145 := Aside0.mk hy145
 clear hy145
 replace H := Option.bind_eq_some_iff.mp H
 obtain ⟨⟨t149, t150, t151⟩, A50, H⟩ := H
 try dsimp only at H
 have A5 := Aside0.mk A50
 clear A50
 have H' := Aside0.mk H
 clear H
 go_enter Try.func31, Try.ntmps31
 go_wp2_with (first | ((with_reducible refine gate_dst (N := 2) rfl ?_); refine box_event ?hg (N := 2) ?hd (cs := #[.complex .f32 0 0, .complex .f32 0 0, .complex .f32 0 0, .slice none 0 0]) (t := 42) ?hr ?_; (case hd => rfl); (case hg => rfl); (case hr => first | (go_simp; done) | (go_simp; rfl)); intro gb134 hg w6 hbox hb; have n0_ := Aside0.mk (below_step tb hb); have n1_ := Aside0.mk (hbox); have n2_ := Aside0.mk ((by rw [hg]; exact (below_size tb) : w.heap.size ≤ gb134)); have n3_ := Aside0.mk ((by rw [hg]; exact (below_size tb) : w.heap.size ≤ gb134)); clear HB; have HB := n0_; have BK134 := n1_; have GW134 := n2_; have GE134 := n3_; clear n0_ n1_ n2_ n3_; clear hb hbox hg) | ((with_reducible refine gate_callee (f := 65) rfl ?_); refine gx_ (some 10) Try.func65 #[.slice A0 l0.length c0] ?_; (with_reducible refine (spec_l00From.calls _ _ l0 t135 t136 t137 w _ ?side1 ?side2 ?side3 A2.out).mono ?_); (case side1 => exact tb); (case side2 => exact HR0.out); (case side3 => exact HC0.out); rintro e w7 ⟨g138, rfl, hi, hb, hb2⟩; refine ⟨_, rfl, ?_⟩; have n0_ := Aside0.mk (blk_below (g := gb134) (o := .cells #[.complex .f32 0 0, .complex .f32 0 0, .complex .f32 0 0, .slice none 0 0] 42 (0, 0)) (bu BK134.out) hb2); have n1_ := Aside0.mk (hb); have n2_ := Aside0.mk (hi); have n3_ := Aside0.mk (IsS150.ne_blk hi (blk_below (g := gb134) (o := .cells #[.complex .f32 0 0, .complex .f32 0 0, .complex .f32 0 0, .slice none 0 0] 42 (0, 0)) (bu BK134.out) hb2) (by decide)); have n4_ := Aside0.mk (Ne.symm (IsS150.ne_blk hi (blk_below (g := gb134) (o := .cells #[.complex .f32 0 0, .complex .f32 0 0, .complex .f32 0 0, .slice none 0 0] 42 (0, 0)) (bu BK134.out) hb2) (by decide))); clear BK134; clear HB; have BK134 := n0_; have HB := n1_; have HI138 := n2_; have NB138_134 := n3_; have NB134_138 := n4_; clear n0_ n1_ n2_ n3_ n4_; (try clear hb); (try clear hb2); (try clear hk); (try clear hi)) | ((with_reducible refine gate_callee (f := 73) rfl ?_); refine gx_ (some 12) Try.func73 #[.pointer (some ⟨g138, 0, none⟩), .int .i64 16] ?_; (with_reducible refine (spec_l00Src_pick.calls g138 t135 t136 t137 16 t139 t140 t141 w _ ?side1 ?side2 A3.out).mono ?_); (case side1 => have hi_ := HI138.out; exact IsS150.up); (case side2 => have ge_ := IsS150.ge HI138.out; exact tb); rintro e w8 ⟨rfl, hi, hb, hk⟩; refine ⟨_, rfl, ?_⟩; have n0_ := Aside0.mk (KeepBut.blk hk (g' := gb134) (o := .cells #[.complex .f32 0 0, .complex .f32 0 0, .complex .f32 0 0, .slice none 0 0] 42 (0, 0)) (bu BK134.out) NB134_138.out (by simp)); have n1_ := Aside0.mk (hb); have n2_ := Aside0.mk (hi); clear BK134; clear HB; clear HI138; have BK134 := n0_; have HB := n1_; have HI138 := n2_; clear n0_ n1_ n2_; (try clear hb); (try clear hb2); (try clear hk); (try clear hi)) | ((with_reducible refine gate_callee (f := 89) rfl ?_); refine gx_ (some 16) Try.func89 #[.complex .f32 (floatOfInt .f32 (wrap64 (16 + t139))) 0] ?_; (with_reducible refine (spec_l02Even.calls k (⟨floatOfInt .f32 (wrap64 (16 + t139)), 0⟩ : Cx) t142 t143 t144 _ A4.out).mono ?_); rintro e w9 ⟨rfl, hb⟩; refine ⟨_, rfl, ?_⟩; have n0_ := Aside0.mk (blk_below (g := gb134) (o := .cells #[.complex .f32 0 0, .complex .f32 0 0, .complex .f32 0 0, .slice none 0 0] 42 (0, 0)) (bu BK134.out) hb); have n1_ := Aside0.mk (IsS150.below (by have hi_ := HI138.out; exact IsS150.up) hb); have n2_ := Aside0.mk (below_step (by have ge_ := IsS150.ge HI138.out; exact tb) hb); clear BK134; clear HI138; clear HB; have BK134 := n0_; have HI138 := n1_; have HB := n2_; clear n0_ n1_ n2_; (try clear hb); (try clear hb2); (try clear hk); (try clear hi)) | ((with_reducible refine gate_dst (N := 18) rfl ?_); refine Kd.R_lit k66 _ 66 ?hg (N := 18) ?hd (xs := ([(⟨(-1), (⟨0, 0⟩ : Cx), (⟨0, 0⟩ : Cx), 0, (⟨(⟨0, 0⟩ : Cx), (⟨0, 0⟩ : Cx), (⟨0, 0⟩ : Cx)⟩ : S39), 0⟩ : S66)] : List (S66))) (inner := [.int .i64 (-1), .complex .f32 0 0, .complex .f32 0 0, .int .i64 0, .complex .f32 0 0, .complex .f32 0 0, .complex .f32 0 0, .int .i64 0]) (ok := fun _ => True) (okp := fun _ => True) ?hr ?hp (fun _ hk => hk) trivial (Below.refl _ _) (Nat.le_refl _) (by simp) ?_; (case hd => rfl); (case hg => rfl); (case hr => first | (go_simp; done) | (go_simp; rfl)); (case hp => exact (Reps.c8 (show Kd.M k66 _ _ _ (⟨(-1), (⟨0, 0⟩ : Cx), (⟨0, 0⟩ : Cx), 0, (⟨(⟨0, 0⟩ : Cx), (⟨0, 0⟩ : Cx), (⟨0, 0⟩ : Cx)⟩ : S39), 0⟩ : S66) [.int .i64 (-1), .complex .f32 0 0, .complex .f32 0 0, .int .i64 0, .complex .f32 0 0, .complex .f32 0 0, .complex .f32 0 0, .int .i64 0] from (k66_mkM _ _ _ (⟨(-1), (⟨0, 0⟩ : Cx), (⟨0, 0⟩ : Cx), 0, (⟨(⟨0, 0⟩ : Cx), (⟨0, 0⟩ : Cx), (⟨0, 0⟩ : Cx)⟩ : S39), 0⟩ : S66) )) (Reps.none _ _))); intro v146 w10 ho11 hb hg_ hnew_; clear hg_ hnew_; (first | rw [← Ny145.out] at ho11 | (simp only [Int.reduceToNat] at ho11; rw [← Ny145.out] at ho11)); have n0_ := Aside0.mk (Kd.R_lower ho11 (below_size (by have ge_ := IsS150.ge HI138.out; exact tb))); have n1_ := Aside0.mk (blk_below (g := gb134) (o := .cells #[.complex .f32 0 0, .complex .f32 0 0, .complex .f32 0 0, .slice none 0 0] 42 (0, 0)) (bu BK134.out) hb); have n2_ := Aside0.mk (IsS150.below (by have hi_ := HI138.out; exact IsS150.up) hb); have n3_ := Aside0.mk (below_step (by have ge_ := IsS150.ge HI138.out; exact tb) hb); clear BK134; clear HI138; clear HB; have HO147 := n0_; have BK134 := n1_; have HI138 := n2_; have HB := n3_; clear n0_ n1_ n2_ n3_; clear hb ho11; obtain ⟨Ao12, co12, eo12⟩ := Kd.R_slice HO147.out; subst eo12) | ((with_reducible refine gate_dst (N := 4) rfl ?_); refine box_event ?hg (N := 4) ?hd (cs := #[.complex .f32 0 0, .complex .f32 0 0, .complex .f32 0 0, .slice none 0 0]) (t := 42) ?hr ?_; (case hd => rfl); (case hg => rfl); (case hr => first | (go_simp; done) | (go_simp; rfl)); intro gb148 hg w13 hbox hb; have n0_ := Aside0.mk (Kd.R_below (ru HO147.out) hb); have n1_ := Aside0.mk (blk_below (g := gb134) (o := .cells #[.complex .f32 0 0, .complex .f32 0 0, .complex .f32 0 0, .slice none 0 0] 42 (0, 0)) (bu BK134.out) hb); have n2_ := Aside0.mk (IsS150.below (by have hi_ := HI138.out; exact IsS150.up) hb); have n3_ := Aside0.mk (below_step (by have ge_ := IsS150.ge HI138.out; exact tb) hb); have n4_ := Aside0.mk (hbox); have n5_ := Aside0.mk ((by rw [hg]; exact (below_size (by have ge_ := IsS150.ge HI138.out; exact tb)) : w.heap.size ≤ gb148)); have n6_ := Aside0.mk ((by rw [hg]; exact (below_size (by have ge_ := IsS150.ge HI138.out; exact tb)) : w.heap.size ≤ gb148)); have n7_ := Aside0.mk ((by rw [hg]; exact Nat.ne_of_lt (blk_lt (g := gb134) (o := .cells #[.complex .f32 0 0, .complex .f32 0 0, .complex .f32 0 0, .slice none 0 0] 42 (0, 0)) (bu BK134.out)) : gb134 ≠ gb148)); have n8_ := Aside0.mk ((by rw [hg]; exact Nat.ne_of_gt (blk_lt (g := gb134) (o := .cells #[.complex .f32 0 0, .complex .f32 0 0, .complex .f32 0 0, .slice none 0 0] 42 (0, 0)) (bu BK134.out)) : gb148 ≠ gb134)); have n9_ := Aside0.mk ((by rw [hg]; exact Nat.ne_of_lt (IsS150.lt (show IsS150 w _ g138 t135 t140 t141 from by have hi_ := HI138.out; exact IsS150.up)) : g138 ≠ gb148)); have n10_ := Aside0.mk ((by rw [hg]; exact Nat.ne_of_gt (IsS150.lt (show IsS150 w _ g138 t135 t140 t141 from by have hi_ := HI138.out; exact IsS150.up)) : gb148 ≠ g138)); clear HO147; clear BK134; clear HI138; clear HB; have HO147 := n0_; have BK134 := n1_; have HI138 := n2_; have HB := n3_; have BK148 := n4_; have GW148 := n5_; have GE148 := n6_; have NB134_148 := n7_; have NB148_134 := n8_; have NB138_148 := n9_; have NB148_138 := n10_; clear n0_ n1_ n2_ n3_ n4_ n5_ n6_ n7_ n8_ n9_ n10_; clear hb hbox hg; have hnb14 := NB148_134.out; have hnc14 := NB134_148.out; have hnb15 := NB148_138.out; have hnc15 := NB138_148.out; have hcz16_0 : w13.cell? ⟨gb148, 0, none⟩ = some (.complex .f32 0 0) := (blk_cell BK148.out 0).trans rfl; have hcz16_1 : w13.cell? ⟨gb148, 1, none⟩ = some (.complex .f32 0 0) := (blk_cell BK148.out 1).trans rfl; have hcz16_2 : w13.cell? ⟨gb148, 2, none⟩ = some (.complex .f32 0 0) := (blk_cell BK148.out 2).trans rfl; have hcz16_3 : w13.cell? ⟨gb148, 3, none⟩ = some (.slice none 0 0) := (blk_cell BK148.out 3).trans rfl; have hfz16_0 := blk_frozen BK148.out 0; have hfz16_1 := blk_frozen BK148.out 1; have hfz16_2 := blk_frozen BK148.out 2; have hfz16_3 := blk_frozen BK148.out 3) | ((with_reducible refine gate_callee (f := 73) rfl ?_); refine gx_ (some 21) Try.func73 #[.pointer (some ⟨g138, 0, none⟩), .int .i64 5] ?_; (with_reducible refine (spec_l00Src_pick.calls g138 t135 t140 t141 5 t149 t150 t151 w _ ?side1 ?side2 A5.out).mono ?_); (case side1 => have hi_ := HI138.out; exact IsS150.up); (case side2 => have ge_ := IsS150.ge HI138.out; exact tb); rintro e w17 ⟨rfl, hi, hb, hk⟩; refine ⟨_, rfl, ?_⟩; have n0_ := Aside0.mk (KeepBut.blk hk (g' := gb134) (o := .cells #[.complex .f32 0 0, .complex .f32 0 0, .complex .f32 0 0, .slice none 0 0] 42 (0, 0)) (bv BK134.out) NB134_138.out (by simp)); have n1_ := Aside0.mk (Kd.R_mono (Kd.R_keep (IsS150.apart (show IsS150 w _ g138 t135 t140 t141 from by have hi_ := HI138.out; exact IsS150.up) (by refine ru ?_; exact (Kd.R_mono (Kd.R_far (p := ⟨gb148, 3, none⟩) (Kd.R_far (p := ⟨gb148, 2, none⟩) (Kd.R_far (p := ⟨gb148, 1, none⟩) (Kd.R_far (p := ⟨gb148, 0, none⟩) (Kd.R_types HO147.out BK148.out (by decide)) (fun _ hk => hk.2) (.complex .f32 t142.re t142.im)) (fun _ hk => hk.2) (.complex .f32 t143.re t143.im)) (fun _ hk => hk.2) (.complex .f32 t144.re t144.im)) (fun _ hk => hk.2) (.slice Ao12 y145.length co12)) (fun _ h_ => h_.1))) (by decide)) hk (fun _ h => h.2)) (fun _ h => h.1)); have n2_ := Aside0.mk (KeepBut.blk hk (g' := gb148) (o := .cells #[.complex .f32 t142.re t142.im, .complex .f32 t143.re t143.im, .complex .f32 t144.re t144.im, .slice Ao12 y145.length co12] 42 (0, 0)) (by refine bu ?_; refine blk_put (cs := #[.complex .f32 t142.re t142.im, .complex .f32 t143.re t143.im, .complex .f32 t144.re t144.im, .slice none 0 0]) ?_ 3 _ rfl; refine bu ?_; refine blk_put (cs := #[.complex .f32 t142.re t142.im, .complex .f32 t143.re t143.im, .complex .f32 0 0, .slice none 0 0]) ?_ 2 _ rfl; refine bu ?_; refine blk_put (cs := #[.complex .f32 t142.re t142.im, .complex .f32 0 0, .complex .f32 0 0, .slice none 0 0]) ?_ 1 _ rfl; refine bu ?_; refine blk_put (cs := #[.complex .f32 0 0, .complex .f32 0 0, .complex .f32 0 0, .slice none 0 0]) ?_ 0 _ rfl; refine bu ?_; exact BK148.out) NB148_138.out (by simp)); have n3_ := Aside0.mk (hb); have n4_ := Aside0.mk (hi); clear BK134; clear HO147; clear BK148; clear HB; clear HI138; have BK134 := n0_; have HO147 := n1_; have BK148 := n2_; have HB := n3_; have HI138 := n4_; clear n0_ n1_ n2_ n3_ n4_; (try clear hb); (try clear hb2); (try clear hk); (try clear hi)))
 go_loopg [5] k (fun kq v5 w' => ∃ (x5_1 : Int) (x139001_1 : Int) (x139002_1 : Int) (x149003_1 : List (S66)) (u149003 : Value), v5 = .int .i64 x5_1 ∧ Aside0 (spec_B10Mild.l0 kq x5_1 t135 x139001_1 x139002_1 t142 t143 t144 x149003_1 = some (r1, r2, r3, r4)) ∧ Aside0 (kq ≤ k) ∧ Aside0 (Kd.R k66 66 w' w.heap.size (fun _ => True) u149003 x149003_1) ∧ Aside0 (w'.heap[gb134]? = some (.cells #[.complex .f32 0 0, .complex .f32 0 0, .complex .f32 0 0, (.slice none 0 0)] 42 (0, 0))) ∧ Aside0 (w'.heap[gb148]? = some (.cells #[.complex .f32 t142.re t142.im, .complex .f32 t143.re t143.im, .complex .f32 t144.re t144.im, u149003] 42 (0, 0))) ∧ Aside0 (IsS150 w w' g138 t135 x139001_1 x139002_1) ∧ Aside0 (Below w.heap.size w w'))
 case atStart => exact ⟨(wrap64 (1 + t149)), (t150), (t151), (y145), (.slice Ao12 y145.length co12), rs_, H', ⟨Nat.le_refl _⟩, ⟨by refine ru ?_; exact HO147.out⟩, ⟨by refine bu ?_; exact BK134.out⟩, ⟨by refine bu ?_; exact BK148.out⟩, ⟨by have hi_ := HI138.out; exact IsS150.up⟩, ⟨by have ge_ := IsS150.ge HI138.out; exact tb⟩⟩
 case round =>
  clear H'
  try clear c1
  try clear p2
  try clear c3
  try clear c6
  try clear p6
  try clear c7
  try clear c8
  try clear c14
  try clear c15
  try clear hcz16_0
  try clear hcz16_1
  try clear hcz16_2
  try clear hcz16_3
  try clear hfz16_0
  try clear hfz16_1
  try clear hfz16_2
  try clear hfz16_3
  obtain ⟨x5_1, x139001_1, x139002_1, x149003_1, u149003, rfl, HA, HK1, HO_149003, BK134, BK148, HI138, HB⟩ := hrel
  cases gk with
  | zero => exact absurd HA.out (by simp [spec_B10Mild.l0])
  | succ k1 =>
   have H := HA.out
   clear HA
   simp only [spec_B10Mild.l0] at H
   by_cases c18 : x5_1 > 0
   ·rw [if_pos c18] at H
    have c18b0 : decide (0 < x5_1) = true := decide_eq_true c18
    clear c18
    replace H := Option.bind_eq_some_iff.mp H
    obtain ⟨⟨t152, t153, t154⟩, A190, H⟩ := H
    try dsimp only at H
    have A19 := Aside0.mk A190
    clear A190
    replace H := Option.bind_eq_some_iff.mp H
    obtain ⟨⟨t156, t157, t158⟩, A200, H⟩ := H
    try dsimp only at H
    have A20 := Aside0.mk A200
    clear A200
    by_cases c21 : fok .quo .f32 (floatOfInt .f32 (wrap64 (1 + t156))) 1115684864 = true
    ·rw [if_pos c21] at H
     have c21b0 := eq_true c21
     have c21b1 : decide (fok .quo .f32 (floatOfInt .f32 (wrap64 (1 + t156))) 1115684864 = true) = true := decide_eq_true c21
     replace H := Option.bind_eq_some_iff.mp H
     obtain ⟨⟨t159, t160, t161⟩, A220, H⟩ := H
     try dsimp only at H
     have A22 := Aside0.mk A220
     clear A220
     by_cases c23 : fok .quo .f32 (floatOfInt .f32 t159) 1115684864 = true
     ·rw [if_pos c23] at H
      have c23b0 := eq_true c23
      have c23b1 : decide (fok .quo .f32 (floatOfInt .f32 t159) 1115684864 = true) = true := decide_eq_true c23
      clear c23
      replace H := Option.bind_eq_some_iff.mp H
      obtain ⟨⟨t162, t163, t164⟩, A240, H⟩ := H
      try dsimp only at H
      have A24 := Aside0.mk A240
      clear A240
      replace H := Option.bind_eq_some_iff.mp H
      obtain ⟨⟨t165, t166, t167⟩, A250, H⟩ := H
      try dsimp only at H
      have A25 := Aside0.mk A250
      clear A250
      by_cases c26 : fok .quo .f32 (floatOfInt .f32 t165) 1082130432 = true
      ·rw [if_pos c26] at H
       have c26b0 := eq_true c26
       have c26b1 : decide (fok .quo .f32 (floatOfInt .f32 t165) 1082130432 = true) = true := decide_eq_true c26
       clear c26
       replace H := Option.bind_eq_some_iff.mp H
       obtain ⟨⟨t168, t169, t170⟩, A270, H⟩ := H
       try dsimp only at H
       have A27 := Aside0.mk A270
       clear A270
       by_cases c28 : fok .quo .f32 (floatOfInt .f32 t168) 1082130432 = true
       ·rw [if_pos c28] at H
        have c28b0 := eq_true c28
        have c28b1 : decide (fok .quo .f32 (floatOfInt .f32 t168) 1082130432 = true) = true := decide_eq_true c28
        clear c28
        replace H := Option.bind_eq_some_iff.mp H
        obtain ⟨⟨t171, t172, t173⟩, A290, H⟩ := H
        try dsimp only at H
        have A29 := Aside0.mk A290
        clear A290
        by_cases c30 : fok .quo .f32 (floatOfInt .f32 t171) 1082130432 = true
        ·rw [if_pos c30] at H
         have c30b0 := eq_true c30
         have c30b1 : decide (fok .quo .f32 (floatOfInt .f32 t171) 1082130432 = true) = true := decide_eq_true c30
         clear c30
         replace H := Option.bind_eq_some_iff.mp H
         obtain ⟨⟨t174, t175, t176⟩, A310, H⟩ := H
         try dsimp only at H
         have A31 := Aside0.mk A310
         clear A310
         by_cases c32 : fok .quo .f32 (floatOfInt .f32 t174) 1082130432 = true
         ·rw [if_pos c32] at H
          have c32b0 := eq_true c32
          have c32b1 : decide (fok .quo .f32 (floatOfInt .f32 t174) 1082130432 = true) = true := decide_eq_true c32
          clear c32
          replace H := Option.bind_eq_some_iff.mp H
          obtain ⟨⟨t177, t178, t179⟩, A330, H⟩ := H
          try dsimp only at H
          have A33 := Aside0.mk A330
          clear A330
          by_cases c34 : x149003_1.length < 2199023255552
          ·rw [if_pos c34] at H
           have LMc34 := Aside0.mk c34
           clear c34
           obtain ⟨y180, hy180⟩ : ∃ y_ : List (S66), y_ = (x149003_1 ++ [(⟨t152, (⟨fv .quo .f32 (floatOfInt .f32 (wrap64 (1 + t156))) 1115684864, fv .quo .f32 (floatOfInt .f32 t159) 1115684864⟩ : Cx), (⟨0, 0⟩ : Cx), t162, (⟨(⟨fv .quo .f32 (floatOfInt .f32 t165) 1082130432, fv .quo .f32 (floatOfInt .f32 t168) 1082130432⟩ : Cx), (⟨fv .quo .f32 (floatOfInt .f32 t171) 1082130432, 0⟩ : Cx), (⟨fv .quo .f32 (floatOfInt .f32 t174) 1082130432, 0⟩ : Cx)⟩ : S39), t177⟩ : S66)]) := ⟨_, rfl⟩
           replace H : (spec_B10Mild.l0 k1 (wrap64 (x5_1 - 1)) t135 t178 t179 t142 t143 t144 y180) = some (r1, r2, r3, r4) := by first | (rw [hy180]; with_reducible exact H) | (have H2_ := (Option.bind_some _ _).symm.trans H; rw [hy180]; with_reducible exact H2_) | (have H2_ := (Option.bind_some _ _).symm.trans H; with_reducible exact H2_) | with_reducible exact H | (rw [hy180]; exact H) | exact H
           have Ny180 := Aside0.mk hy180
           clear hy180
           have H' := Aside0.mk H
           clear H
           have hnb35 := NB148_134.out
           have hnc35 := NB134_148.out
           have hnb36 := NB148_138.out
           have hnc36 := NB138_148.out
           have hcz37_0 : wr.cell? ⟨gb148, 0, none⟩ = some (.complex .f32 t142.re t142.im) := (blk_cell BK148.out 0).trans rfl
           have hcz37_1 : wr.cell? ⟨gb148, 1, none⟩ = some (.complex .f32 t143.re t143.im) := (blk_cell BK148.out 1).trans rfl
           have hcz37_2 : wr.cell? ⟨gb148, 2, none⟩ = some (.complex .f32 t144.re t144.im) := (blk_cell BK148.out 2).trans rfl
           have hcz37_3 : wr.cell? ⟨gb148, 3, none⟩ = some (u149003) := (blk_cell BK148.out 3).trans rfl
           have hfz37_0 := blk_frozen BK148.out 0
           have hfz37_1 := blk_frozen BK148.out 1
           have hfz37_2 := blk_frozen BK148.out 2
           have hfz37_3 := blk_frozen BK148.out 3
           obtain ⟨Ao38, co38, eo38⟩ := Kd.R_slice HO_149003.out
           subst eo38
           go_wp2_with (first | ((with_reducible refine gate_callee (f := 73) rfl ?_); refine gx_ (some 31) Try.func73 #[.pointer (some ⟨g138, 0, none⟩), .int .i64 (x149003_1.length : Int)] ?_; (with_reducible refine (spec_l00Src_pick.calls g138 t135 x139001_1 x139002_1 (x149003_1.length : Int) t152 t153 t154 w _ ?side1 ?side2 A19.out).mono ?_); (case side1 => have hi_ := HI138.out; exact IsS150.up); (case side2 => have ge_ := IsS150.ge HI138.out; exact tb); rintro e w39 ⟨rfl, hi, hb, hk⟩; refine ⟨_, rfl, ?_⟩; have n0_ := Aside0.mk (Kd.R_mono (Kd.R_keep (IsS150.apart (show IsS150 w _ g138 t135 x139001_1 x139002_1 from by have hi_ := HI138.out; exact IsS150.up) (ru HO_149003.out) (by decide)) hk (fun _ h => h.2)) (fun _ h => h.1)); have n1_ := Aside0.mk (KeepBut.blk hk (g' := gb134) (o := .cells #[.complex .f32 0 0, .complex .f32 0 0, .complex .f32 0 0, .slice none 0 0] 42 (0, 0)) (bu BK134.out) NB134_138.out (by simp)); have n2_ := Aside0.mk (KeepBut.blk hk (g' := gb148) (o := .cells #[.complex .f32 t142.re t142.im, .complex .f32 t143.re t143.im, .complex .f32 t144.re t144.im, .slice Ao38 x149003_1.length co38] 42 (0, 0)) (bu BK148.out) NB148_138.out (by simp)); have n3_ := Aside0.mk (hb); have n4_ := Aside0.mk (hi); clear HO_149003; clear BK134; clear BK148; clear HB; clear HI138; have HO_149003 := n0_; have BK134 := n1_; have BK148 := n2_; have HB := n3_; have HI138 := n4_; clear n0_ n1_ n2_ n3_ n4_; (try clear hb); (try clear hb2); (try clear hk); (try clear hi)) | ((with_reducible refine gate_dst (N := 6) rfl ?_); refine box_event ?hg (N := 6) ?hd (cs := #[.int .i64 0, .complex .f32 0 0, .complex .f32 0 0, .int .i64 0, .complex .f32 0 0, .complex .f32 0 0, .complex .f32 0 0, .int .i64 0]) (t := 66) ?hr ?_; (case hd => rfl); (case hg => rfl); (case hr => first | (go_simp; done) | (go_simp; rfl)); intro gb155 hg w40 hbox hb; have n0_ := Aside0.mk (Kd.R_below (Kd.R_elderB (ru HO_149003.out) gb155 (Nat.le_of_eq hg.symm)) hb); have n1_ := Aside0.mk (blk_below (g := gb134) (o := .cells #[.complex .f32 0 0, .complex .f32 0 0, .complex .f32 0 0, .slice none 0 0] 42 (0, 0)) (bu BK134.out) hb); have n2_ := Aside0.mk (blk_below (g := gb148) (o := .cells #[.complex .f32 t142.re t142.im, .complex .f32 t143.re t143.im, .complex .f32 t144.re t144.im, .slice Ao38 x149003_1.length co38] 42 (0, 0)) (bu BK148.out) hb); have n3_ := Aside0.mk (IsS150.below (by have hi_ := HI138.out; exact IsS150.up) hb); have n4_ := Aside0.mk (below_step (by have ge_ := IsS150.ge HI138.out; exact tb) hb); have n5_ := Aside0.mk (hbox); have n6_ := Aside0.mk ((by rw [hg]; exact (below_size (by have ge_ := IsS150.ge HI138.out; exact tb)) : w.heap.size ≤ gb155)); have n7_ := Aside0.mk ((by rw [hg]; exact (below_size (by have ge_ := IsS150.ge HI138.out; exact tb)) : w.heap.size ≤ gb155)); have n8_ := Aside0.mk ((by rw [hg]; exact Nat.ne_of_lt (blk_lt (g := gb134) (o := .cells #[.complex .f32 0 0, .complex .f32 0 0, .complex .f32 0 0, .slice none 0 0] 42 (0, 0)) (bu BK134.out)) : gb134 ≠ gb155)); have n9_ := Aside0.mk ((by rw [hg]; exact Nat.ne_of_gt (blk_lt (g := gb134) (o := .cells #[.complex .f32 0 0, .complex .f32 0 0, .complex .f32 0 0, .slice none 0 0] 42 (0, 0)) (bu BK134.out)) : gb155 ≠ gb134)); have n10_ := Aside0.mk ((by rw [hg]; exact Nat.ne_of_lt (blk_lt (g := gb148) (o := .cells #[.complex .f32 t142.re t142.im, .complex .f32 t143.re t143.im, .complex .f32 t144.re t144.im, .slice Ao38 x149003_1.length co38] 42 (0, 0)) (bu BK148.out)) : gb148 ≠ gb155)); have n11_ := Aside0.mk ((by rw [hg]; exact Nat.ne_of_gt (blk_lt (g := gb148) (o := .cells #[.complex .f32 t142.re t142.im, .complex .f32 t143.re t143.im, .complex .f32 t144.re t144.im, .slice Ao38 x149003_1.length co38] 42 (0, 0)) (bu BK148.out)) : gb155 ≠ gb148)); have n12_ := Aside0.mk ((by rw [hg]; exact Nat.ne_of_lt (IsS150.lt (show IsS150 w _ g138 t135 t153 t154 from by have hi_ := HI138.out; exact IsS150.up)) : g138 ≠ gb155)); have n13_ := Aside0.mk ((by rw [hg]; exact Nat.ne_of_gt (IsS150.lt (show IsS150 w _ g138 t135 t153 t154 from by have hi_ := HI138.out; exact IsS150.up)) : gb155 ≠ g138)); clear HO_149003; clear BK134; clear BK148; clear HI138; clear HB; have HO_149003 := n0_; have BK134 := n1_; have BK148 := n2_; have HI138 := n3_; have HB := n4_; have BK155 := n5_; have GW155 := n6_; have GE155 := n7_; have NB134_155 := n8_; have NB155_134 := n9_; have NB148_155 := n10_; have NB155_148 := n11_; have NB138_155 := n12_; have NB155_138 := n13_; clear n0_ n1_ n2_ n3_ n4_ n5_ n6_ n7_ n8_ n9_ n10_ n11_ n12_ n13_; clear hb hbox hg; have hnb41 := NB155_134.out; have hnc41 := NB134_155.out; have hnb42 := NB155_148.out; have hnc42 := NB148_155.out; have hnb43 := NB155_138.out; have hnc43 := NB138_155.out; have hcz44_0 : w40.cell? ⟨gb155, 0, none⟩ = some (.int .i64 0) := (blk_cell BK155.out 0).trans rfl; have hcz44_1 : w40.cell? ⟨gb155, 1, none⟩ = some (.complex .f32 0 0) := (blk_cell BK155.out 1).trans rfl; have hcz44_2 : w40.cell? ⟨gb155, 2, none⟩ = some (.complex .f32 0 0) := (blk_cell BK155.out 2).trans rfl; have hcz44_3 : w40.cell? ⟨gb155, 3, none⟩ = some (.int .i64 0) := (blk_cell BK155.out 3).trans rfl; have hcz44_4 : w40.cell? ⟨gb155, 4, none⟩ = some (.complex .f32 0 0) := (blk_cell BK155.out 4).trans rfl; have hcz44_5 : w40.cell? ⟨gb155, 5, none⟩ = some (.complex .f32 0 0) := (blk_cell BK155.out 5).trans rfl; have hcz44_6 : w40.cell? ⟨gb155, 6, none⟩ = some (.complex .f32 0 0) := (blk_cell BK155.out 6).trans rfl; have hcz44_7 : w40.cell? ⟨gb155, 7, none⟩ = some (.int .i64 0) := (blk_cell BK155.out 7).trans rfl; have hfz44_0 := blk_frozen BK155.out 0; have hfz44_1 := blk_frozen BK155.out 1; have hfz44_2 := blk_frozen BK155.out 2; have hfz44_3 := blk_frozen BK155.out 3; have hfz44_4 := blk_frozen BK155.out 4; have hfz44_5 := blk_frozen BK155.out 5; have hfz44_6 := blk_frozen BK155.out 6; have hfz44_7 := blk_frozen BK155.out 7) | ((with_reducible refine gate_callee (f := 73) rfl ?_); refine gx_ (some 34) Try.func73 #[.pointer (some ⟨g138, 0, none⟩), .int .i64 4] ?_; (with_reducible refine (spec_l00Src_pick.calls g138 t135 t153 t154 4 t156 t157 t158 w _ ?side1 ?side2 A20.out).mono ?_); (case side1 => have hi_ := HI138.out; exact IsS150.up); (case side2 => have ge_ := IsS150.ge HI138.out; exact tb); rintro e w45 ⟨rfl, hi, hb, hk⟩; refine ⟨_, rfl, ?_⟩; have n0_ := Aside0.mk (Kd.R_mono (Kd.R_keep (IsS150.apart (show IsS150 w _ g138 t135 t153 t154 from by have hi_ := HI138.out; exact IsS150.up) (by refine ru ?_; exact (Kd.R_mono (Kd.R_far (p := ⟨gb155, 7, none⟩) (Kd.R_far (p := ⟨gb155, 6, none⟩) (Kd.R_far (p := ⟨gb155, 5, none⟩) (Kd.R_far (p := ⟨gb155, 4, none⟩) (Kd.R_far (p := ⟨gb155, 3, none⟩) (Kd.R_far (p := ⟨gb155, 2, none⟩) (Kd.R_far (p := ⟨gb155, 1, none⟩) (Kd.R_far (p := ⟨gb155, 0, none⟩) (Kd.R_mono HO_149003.out (fun k_ hk => (⟨hk, hk.2⟩ : _ ∧ k_ ≠ gb155))) (fun _ hk => hk.2) (.int .i64 t152)) (fun _ hk => hk.2) (.complex .f32 0 0)) (fun _ hk => hk.2) (.complex .f32 0 0)) (fun _ hk => hk.2) (.int .i64 0)) (fun _ hk => hk.2) (.complex .f32 0 0)) (fun _ hk => hk.2) (.complex .f32 0 0)) (fun _ hk => hk.2) (.complex .f32 0 0)) (fun _ hk => hk.2) (.int .i64 0)) (fun _ h_ => h_.1))) (by decide)) hk (fun _ h => h.2)) (fun _ h => h.1)); have n1_ := Aside0.mk (KeepBut.blk hk (g' := gb134) (o := .cells #[.complex .f32 0 0, .complex .f32 0 0, .complex .f32 0 0, .slice none 0 0] 42 (0, 0)) (bv BK134.out) NB134_138.out (by simp)); have n2_ := Aside0.mk (KeepBut.blk hk (g' := gb148) (o := .cells #[.complex .f32 t142.re t142.im, .complex .f32 t143.re t143.im, .complex .f32 t144.re t144.im, .slice Ao38 x149003_1.length co38] 42 (0, 0)) (bv BK148.out) NB148_138.out (by simp)); have n3_ := Aside0.mk (KeepBut.blk hk (g' := gb155) (o := .cells #[.int .i64 t152, .complex .f32 0 0, .complex .f32 0 0, .int .i64 0, .complex .f32 0 0, .complex .f32 0 0, .complex .f32 0 0, .int .i64 0] 66 (0, 0)) (by refine bu ?_; refine blk_put (cs := #[.int .i64 t152, .complex .f32 0 0, .complex .f32 0 0, .int .i64 0, .complex .f32 0 0, .complex .f32 0 0, .complex .f32 0 0, .int .i64 0]) ?_ 7 _ rfl; refine bu ?_; refine blk_put (cs := #[.int .i64 t152, .complex .f32 0 0, .complex .f32 0 0, .int .i64 0, .complex .f32 0 0, .complex .f32 0 0, .complex .f32 0 0, .int .i64 0]) ?_ 6 _ rfl; refine bu ?_; refine blk_put (cs := #[.int .i64 t152, .complex .f32 0 0, .complex .f32 0 0, .int .i64 0, .complex .f32 0 0, .complex .f32 0 0, .complex .f32 0 0, .int .i64 0]) ?_ 5 _ rfl; refine bu ?_; refine blk_put (cs := #[.int .i64 t152, .complex .f32 0 0, .complex .f32 0 0, .int .i64 0, .complex .f32 0 0, .complex .f32 0 0, .complex .f32 0 0, .int .i64 0]) ?_ 4 _ rfl; refine bu ?_; refine blk_put (cs := #[.int .i64 t152, .complex .f32 0 0, .complex .f32 0 0, .int .i64 0, .complex .f32 0 0, .complex .f32 0 0, .complex .f32 0 0, .int .i64 0]) ?_ 3 _ rfl; refine bu ?_; refine blk_put (cs := #[.int .i64 t152, .complex .f32 0 0, .complex .f32 0 0, .int .i64 0, .complex .f32 0 0, .complex .f32 0 0, .complex .f32 0 0, .int .i64 0]) ?_ 2 _ rfl; refine bu ?_; refine blk_put (cs := #[.int .i64 t152, .complex .f32 0 0, .complex .f32 0 0, .int .i64 0, .complex .f32 0 0, .complex .f32 0 0, .complex .f32 0 0, .int .i64 0]) ?_ 1 _ rfl; refine bu ?_; refine blk_put (cs := #[.int .i64 0, .complex .f32 0 0, .complex .f32 0 0, .int .i64 0, .complex .f32 0 0, .complex .f32 0 0, .complex .f32 0 0, .int .i64 0]) ?_ 0 _ rfl; refine bu ?_; exact BK155.out) NB155_138.out (by simp)); have n4_ := Aside0.mk (hb); have n5_ := Aside0.mk (hi); clear HO_149003; clear BK134; clear BK148; clear BK155; clear HB; clear HI138; have HO_149003 := n0_; have BK134 := n1_; have BK148 := n2_; have BK155 := n3_; have HB := n4_; have HI138 := n5_; clear n0_ n1_ n2_ n3_ n4_ n5_; (try clear hb); (try clear hb2); (try clear hk); (try clear hi)) | ((with_reducible refine gate_callee (f := 73) rfl ?_); refine gx_ (some 40) Try.func73 #[.pointer (some ⟨g138, 0, none⟩), .int .i64 4] ?_; (with_reducible refine (spec_l00Src_pick.calls g138 t135 t157 t158 4 t159 t160 t161 w _ ?side1 ?side2 A22.out).mono ?_); (case side1 => have hi_ := HI138.out; exact IsS150.up); (case side2 => have ge_ := IsS150.ge HI138.out; exact tb); rintro e w46 ⟨rfl, hi, hb, hk⟩; refine ⟨_, rfl, ?_⟩; have n0_ := Aside0.mk (Kd.R_mono (Kd.R_keep (IsS150.apart (show IsS150 w _ g138 t135 t157 t158 from by have hi_ := HI138.out; exact IsS150.up) (ru HO_149003.out) (by decide)) hk (fun _ h => h.2)) (fun _ h => h.1)); have n1_ := Aside0.mk (KeepBut.blk hk (g' := gb134) (o := .cells #[.complex .f32 0 0, .complex .f32 0 0, .complex .f32 0 0, .slice none 0 0] 42 (0, 0)) (bu BK134.out) NB134_138.out (by simp)); have n2_ := Aside0.mk (KeepBut.blk hk (g' := gb148) (o := .cells #[.complex .f32 t142.re t142.im, .complex .f32 t143.re t143.im, .complex .f32 t144.re t144.im, .slice Ao38 x149003_1.length co38] 42 (0, 0)) (bu BK148.out) NB148_138.out (by simp)); have n3_ := Aside0.mk (KeepBut.blk hk (g' := gb155) (o := .cells #[.int .i64 t152, .complex .f32 0 0, .complex .f32 0 0, .int .i64 0, .complex .f32 0 0, .complex .f32 0 0, .complex .f32 0 0, .int .i64 0] 66 (0, 0)) (bu BK155.out) NB155_138.out (by simp)); have n4_ := Aside0.mk (hb); have n5_ := Aside0.mk (hi); clear HO_149003; clear BK134; clear BK148; clear BK155; clear HB; clear HI138; have HO_149003 := n0_; have BK134 := n1_; have BK148 := n2_; have BK155 := n3_; have HB := n4_; have HI138 := n5_; clear n0_ n1_ n2_ n3_ n4_ n5_; (try clear hb); (try clear hb2); (try clear hk); (try clear hi); have hcz47_0 : w46.cell? ⟨gb155, 0, none⟩ = some (.int .i64 t152) := (blk_cell BK155.out 0).trans rfl; have hcz47_1 : w46.cell? ⟨gb155, 1, none⟩ = some (.complex .f32 0 0) := (blk_cell BK155.out 1).trans rfl; have hcz47_2 : w46.cell? ⟨gb155, 2, none⟩ = some (.complex .f32 0 0) := (blk_cell BK155.out 2).trans rfl; have hcz47_3 : w46.cell? ⟨gb155, 3, none⟩ = some (.int .i64 0) := (blk_cell BK155.out 3).trans rfl; have hcz47_4 : w46.cell? ⟨gb155, 4, none⟩ = some (.complex .f32 0 0) := (blk_cell BK155.out 4).trans rfl; have hcz47_5 : w46.cell? ⟨gb155, 5, none⟩ = some (.complex .f32 0 0) := (blk_cell BK155.out 5).trans rfl; have hcz47_6 : w46.cell? ⟨gb155, 6, none⟩ = some (.complex .f32 0 0) := (blk_cell BK155.out 6).trans rfl; have hcz47_7 : w46.cell? ⟨gb155, 7, none⟩ = some (.int .i64 0) := (blk_cell BK155.out 7).trans rfl; have hfz47_0 := blk_frozen BK155.out 0; have hfz47_1 := blk_frozen BK155.out 1; have hfz47_2 := blk_frozen BK155.out 2; have hfz47_3 := blk_frozen BK155.out 3; have hfz47_4 := blk_frozen BK155.out 4; have hfz47_5 := blk_frozen BK155.out 5; have hfz47_6 := blk_frozen BK155.out 6; have hfz47_7 := blk_frozen BK155.out 7) | ((with_reducible refine gate_callee (f := 73) rfl ?_); refine gx_ (some 46) Try.func73 #[.pointer (some ⟨g138, 0, none⟩), .int .i64 2] ?_; (with_reducible refine (spec_l00Src_pick.calls g138 t135 t160 t161 2 t162 t163 t164 w _ ?side1 ?side2 A24.out).mono ?_); (case side1 => have hi_ := HI138.out; exact IsS150.up); (case side2 => have ge_ := IsS150.ge HI138.out; exact tb); rintro e w48 ⟨rfl, hi, hb, hk⟩; refine ⟨_, rfl, ?_⟩; have n0_ := Aside0.mk (Kd.R_mono (Kd.R_keep (IsS150.apart (show IsS150 w _ g138 t135 t160 t161 from by have hi_ := HI138.out; exact IsS150.up) (by refine ru ?_; exact (Kd.R_mono (Kd.R_far (p := ⟨gb155, 1, none⟩) (Kd.R_mono HO_149003.out (fun k_ hk => (⟨hk, hk.2⟩ : _ ∧ k_ ≠ gb155))) (fun _ hk => hk.2) (.complex .f32 (fv .quo .f32 (floatOfInt .f32 (wrap64 (1 + t156))) 1115684864) (fv .quo .f32 (floatOfInt .f32 t159) 1115684864))) (fun _ h_ => h_.1))) (by decide)) hk (fun _ h => h.2)) (fun _ h => h.1)); have n1_ := Aside0.mk (KeepBut.blk hk (g' := gb134) (o := .cells #[.complex .f32 0 0, .complex .f32 0 0, .complex .f32 0 0, .slice none 0 0] 42 (0, 0)) (bv BK134.out) NB134_138.out (by simp)); have n2_ := Aside0.mk (KeepBut.blk hk (g' := gb148) (o := .cells #[.complex .f32 t142.re t142.im, .complex .f32 t143.re t143.im, .complex .f32 t144.re t144.im, .slice Ao38 x149003_1.length co38] 42 (0, 0)) (bv BK148.out) NB148_138.out (by simp)); have n3_ := Aside0.mk (KeepBut.blk hk (g' := gb155) (o := .cells #[.int .i64 t152, .complex .f32 (fv .quo .f32 (floatOfInt .f32 (wrap64 (1 + t156))) 1115684864) (fv .quo .f32 (floatOfInt .f32 t159) 1115684864), .complex .f32 0 0, .int .i64 0, .complex .f32 0 0, .complex .f32 0 0, .complex .f32 0 0, .int .i64 0] 66 (0, 0)) (by refine bu ?_; refine blk_put (cs := #[.int .i64 t152, .complex .f32 0 0, .complex .f32 0 0, .int .i64 0, .complex .f32 0 0, .complex .f32 0 0, .complex .f32 0 0, .int .i64 0]) ?_ 1 _ rfl; refine bu ?_; exact BK155.out) NB155_138.out (by simp)); have n4_ := Aside0.mk (hb); have n5_ := Aside0.mk (hi); clear HO_149003; clear BK134; clear BK148; clear BK155; clear HB; clear HI138; have HO_149003 := n0_; have BK134 := n1_; have BK148 := n2_; have BK155 := n3_; have HB := n4_; have HI138 := n5_; clear n0_ n1_ n2_ n3_ n4_ n5_; (try clear hb); (try clear hb2); (try clear hk); (try clear hi); have hcz49_0 : w48.cell? ⟨gb155, 0, none⟩ = some (.int .i64 t152) := (blk_cell BK155.out 0).trans rfl; have hcz49_1 : w48.cell? ⟨gb155, 1, none⟩ = some (.complex .f32 (fv .quo .f32 (floatOfInt .f32 (wrap64 (1 + t156))) 1115684864) (fv .quo .f32 (floatOfInt .f32 t159) 1115684864)) := (blk_cell BK155.out 1).trans rfl; have hcz49_2 : w48.cell? ⟨gb155, 2, none⟩ = some (.complex .f32 0 0) := (blk_cell BK155.out 2).trans rfl; have hcz49_3 : w48.cell? ⟨gb155, 3, none⟩ = some (.int .i64 0) := (blk_cell BK155.out 3).trans rfl; have hcz49_4 : w48.cell? ⟨gb155, 4, none⟩ = some (.complex .f32 0 0) := (blk_cell BK155.out 4).trans rfl; have hcz49_5 : w48.cell? ⟨gb155, 5, none⟩ = some (.complex .f32 0 0) := (blk_cell BK155.out 5).trans rfl; have hcz49_6 : w48.cell? ⟨gb155, 6, none⟩ = some (.complex .f32 0 0) := (blk_cell BK155.out 6).trans rfl; have hcz49_7 : w48.cell? ⟨gb155, 7, none⟩ = some (.int .i64 0) := (blk_cell BK155.out 7).trans rfl; have hfz49_0 := blk_frozen BK155.out 0; have hfz49_1 := blk_frozen BK155.out 1; have hfz49_2 := blk_frozen BK155.out 2; have hfz49_3 := blk_frozen BK155.out 3; have hfz49_4 := blk_frozen BK155.out 4; have hfz49_5 := blk_frozen BK155.out 5; have hfz49_6 := blk_frozen BK155.out 6; have hfz49_7 := blk_frozen BK155.out 7) | ((with_reducible refine gate_callee (f := 73) rfl ?_); refine gx_ (some 49) Try.func73 #[.pointer (some ⟨g138, 0, none⟩), .int .i64 9] ?_; (with_reducible refine (spec_l00Src_pick.calls g138 t135 t163 t164 9 t165 t166 t167 w _ ?side1 ?side2 A25.out).mono ?_); (case side1 => have hi_ := HI138.out; exact IsS150.up); (case side2 => have ge_ := IsS150.ge HI138.out; exact tb); rintro e w50 ⟨rfl, hi, hb, hk⟩; refine ⟨_, rfl, ?_⟩; have n0_ := Aside0.mk (Kd.R_mono (Kd.R_keep (IsS150.apart (show IsS150 w _ g138 t135 t163 t164 from by have hi_ := HI138.out; exact IsS150.up) (by refine ru ?_; exact (Kd.R_mono (Kd.R_far (p := ⟨gb155, 3, none⟩) (Kd.R_mono HO_149003.out (fun k_ hk => (⟨hk, hk.2⟩ : _ ∧ k_ ≠ gb155))) (fun _ hk => hk.2) (.int .i64 t162)) (fun _ h_ => h_.1))) (by decide)) hk (fun _ h => h.2)) (fun _ h => h.1)); have n1_ := Aside0.mk (KeepBut.blk hk (g' := gb134) (o := .cells #[.complex .f32 0 0, .complex .f32 0 0, .complex .f32 0 0, .slice none 0 0] 42 (0, 0)) (bv BK134.out) NB134_138.out (by simp)); have n2_ := Aside0.mk (KeepBut.blk hk (g' := gb148) (o := .cells #[.complex .f32 t142.re t142.im, .complex .f32 t143.re t143.im, .complex .f32 t144.re t144.im, .slice Ao38 x149003_1.length co38] 42 (0, 0)) (bv BK148.out) NB148_138.out (by simp)); have n3_ := Aside0.mk (KeepBut.blk hk (g' := gb155) (o := .cells #[.int .i64 t152, .complex .f32 (fv .quo .f32 (floatOfInt .f32 (wrap64 (1 + t156))) 1115684864) (fv .quo .f32 (floatOfInt .f32 t159) 1115684864), .complex .f32 0 0, .int .i64 t162, .complex .f32 0 0, .complex .f32 0 0, .complex .f32 0 0, .int .i64 0] 66 (0, 0)) (by refine bu ?_; refine blk_put (cs := #[.int .i64 t152, .complex .f32 (fv .quo .f32 (floatOfInt .f32 (wrap64 (1 + t156))) 1115684864) (fv .quo .f32 (floatOfInt .f32 t159) 1115684864), .complex .f32 0 0, .int .i64 0, .complex .f32 0 0, .complex .f32 0 0, .complex .f32 0 0, .int .i64 0]) ?_ 3 _ rfl; refine bu ?_; exact BK155.out) NB155_138.out (by simp)); have n4_ := Aside0.mk (hb); have n5_ := Aside0.mk (hi); clear HO_149003; clear BK134; clear BK148; clear BK155; clear HB; clear HI138; have HO_149003 := n0_; have BK134 := n1_; have BK148 := n2_; have BK155 := n3_; have HB := n4_; have HI138 := n5_; clear n0_ n1_ n2_ n3_ n4_ n5_; (try clear hb); (try clear hb2); (try clear hk); (try clear hi)) | ((with_reducible refine gate_callee (f := 73) rfl ?_); refine gx_ (some 54) Try.func73 #[.pointer (some ⟨g138, 0, none⟩), .int .i64 3] ?_; (with_reducible refine (spec_l00Src_pick.calls g138 t135 t166 t167 3 t168 t169 t170 w _ ?side1 ?side2 A27.out).mono ?_); (case side1 => have hi_ := HI138.out; exact IsS150.up); (case side2 => have ge_ := IsS150.ge HI138.out; exact tb); rintro e w51 ⟨rfl, hi, hb, hk⟩; refine ⟨_, rfl, ?_⟩; have n0_ := Aside0.mk (Kd.R_mono (Kd.R_keep (IsS150.apart (show IsS150 w _ g138 t135 t166 t167 from by have hi_ := HI138.out; exact IsS150.up) (ru HO_149003.out) (by decide)) hk (fun _ h => h.2)) (fun _ h => h.1)); have n1_ := Aside0.mk (KeepBut.blk hk (g' := gb134) (o := .cells #[.complex .f32 0 0, .complex .f32 0 0, .complex .f32 0 0, .slice none 0 0] 42 (0, 0)) (bu BK134.out) NB134_138.out (by simp)); have n2_ := Aside0.mk (KeepBut.blk hk (g' := gb148) (o := .cells #[.complex .f32 t142.re t142.im, .complex .f32 t143.re t143.im, .complex .f32 t144.re t144.im, .slice Ao38 x149003_1.length co38] 42 (0, 0)) (bu BK148.out) NB148_138.out (by simp)); have n3_ := Aside0.mk (KeepBut.blk hk (g' := gb155) (o := .cells #[.int .i64 t152, .complex .f32 (fv .quo .f32 (floatOfInt .f32 (wrap64 (1 + t156))) 1115684864) (fv .quo .f32 (floatOfInt .f32 t159) 1115684864), .complex .f32 0 0, .int .i64 t162, .complex .f32 0 0, .complex .f32 0 0, .complex .f32 0 0, .int .i64 0] 66 (0, 0)) (bu BK155.out) NB155_138.out (by simp)); have n4_ := Aside0.mk (hb); have n5_ := Aside0.mk (hi); clear HO_149003; clear BK134; clear BK148; clear BK155; clear HB; clear HI138; have HO_149003 := n0_; have BK134 := n1_; have BK148 := n2_; have BK155 := n3_; have HB := n4_; have HI138 := n5_; clear n0_ n1_ n2_ n3_ n4_ n5_; (try clear hb); (try clear hb2); (try clear hk); (try clear hi); have hcz52_0 : w51.cell? ⟨gb155, 0, none⟩ = some (.int .i64 t152) := (blk_cell BK155.out 0).trans rfl; have hcz52_1 : w51.cell? ⟨gb155, 1, none⟩ = some (.complex .f32 (fv .quo .f32 (floatOfInt .f32 (wrap64 (1 + t156))) 1115684864) (fv .quo .f32 (floatOfInt .f32 t159) 1115684864)) := (blk_cell BK155.out 1).trans rfl; have hcz52_2 : w51.cell? ⟨gb155, 2, none⟩ = some (.complex .f32 0 0) := (blk_cell BK155.out 2).trans rfl; have hcz52_3 : w51.cell? ⟨gb155, 3, none⟩ = some (.int .i64 t162) := (blk_cell BK155.out 3).trans rfl; have hcz52_4 : w51.cell? ⟨gb155, 4, none⟩ = some (.complex .f32 0 0) := (blk_cell BK155.out 4).trans rfl; have hcz52_5 : w51.cell? ⟨gb155, 5, none⟩ = some (.complex .f32 0 0) := (blk_cell BK155.out 5).trans rfl; have hcz52_6 : w51.cell? ⟨gb155, 6, none⟩ = some (.complex .f32 0 0) := (blk_cell BK155.out 6).trans rfl; have hcz52_7 : w51.cell? ⟨gb155, 7, none⟩ = some (.int .i64 0) := (blk_cell BK155.out 7).trans rfl; have hfz52_0 := blk_frozen BK155.out 0; have hfz52_1 := blk_frozen BK155.out 1; have hfz52_2 := blk_frozen BK155.out 2; have hfz52_3 := blk_frozen BK155.out 3; have hfz52_4 := blk_frozen BK155.out 4; have hfz52_5 := blk_frozen BK155.out 5; have hfz52_6 := blk_frozen BK155.out 6; have hfz52_7 := blk_frozen BK155.out 7) | ((with_reducible refine gate_callee (f := 73) rfl ?_); refine gx_ (some 61) Try.func73 #[.pointer (some ⟨g138, 0, none⟩), .int .i64 9] ?_; (with_reducible refine (spec_l00Src_pick.calls g138 t135 t169 t170 9 t171 t172 t173 w _ ?side1 ?side2 A29.out).mono ?_); (case side1 => have hi_ := HI138.out; exact IsS150.up); (case side2 => have ge_ := IsS150.ge HI138.out; exact tb); rintro e w53 ⟨rfl, hi, hb, hk⟩; refine ⟨_, rfl, ?_⟩; have n0_ := Aside0.mk (Kd.R_mono (Kd.R_keep (IsS150.apart (show IsS150 w _ g138 t135 t169 t170 from by have hi_ := HI138.out; exact IsS150.up) (by refine ru ?_; exact (Kd.R_mono (Kd.R_far (p := ⟨gb155, 4, none⟩) (Kd.R_mono HO_149003.out (fun k_ hk => (⟨hk, hk.2⟩ : _ ∧ k_ ≠ gb155))) (fun _ hk => hk.2) (.complex .f32 (fv .quo .f32 (floatOfInt .f32 t165) 1082130432) (fv .quo .f32 (floatOfInt .f32 t168) 1082130432))) (fun _ h_ => h_.1))) (by decide)) hk (fun _ h => h.2)) (fun _ h => h.1)); have n1_ := Aside0.mk (KeepBut.blk hk (g' := gb134) (o := .cells #[.complex .f32 0 0, .complex .f32 0 0, .complex .f32 0 0, .slice none 0 0] 42 (0, 0)) (bv BK134.out) NB134_138.out (by simp)); have n2_ := Aside0.mk (KeepBut.blk hk (g' := gb148) (o := .cells #[.complex .f32 t142.re t142.im, .complex .f32 t143.re t143.im, .complex .f32 t144.re t144.im, .slice Ao38 x149003_1.length co38] 42 (0, 0)) (bv BK148.out) NB148_138.out (by simp)); have n3_ := Aside0.mk (KeepBut.blk hk (g' := gb155) (o := .cells #[.int .i64 t152, .complex .f32 (fv .quo .f32 (floatOfInt .f32 (wrap64 (1 + t156))) 1115684864) (fv .quo .f32 (floatOfInt .f32 t159) 1115684864), .complex .f32 0 0, .int .i64 t162, .complex .f32 (fv .quo .f32 (floatOfInt .f32 t165) 1082130432) (fv .quo .f32 (floatOfInt .f32 t168) 1082130432), .complex .f32 0 0, .complex .f32 0 0, .int .i64 0] 66 (0, 0)) (by refine bu ?_; refine blk_put (cs := #[.int .i64 t152, .complex .f32 (fv .quo .f32 (floatOfInt .f32 (wrap64 (1 + t156))) 1115684864) (fv .quo .f32 (floatOfInt .f32 t159) 1115684864), .complex .f32 0 0, .int .i64 t162, .complex .f32 0 0, .complex .f32 0 0, .complex .f32 0 0, .int .i64 0]) ?_ 4 _ rfl; refine bu ?_; exact BK155.out) NB155_138.out (by simp)); have n4_ := Aside0.mk (hb); have n5_ := Aside0.mk (hi); clear HO_149003; clear BK134; clear BK148; clear BK155; clear HB; clear HI138; have HO_149003 := n0_; have BK134 := n1_; have BK148 := n2_; have BK155 := n3_; have HB := n4_; have HI138 := n5_; clear n0_ n1_ n2_ n3_ n4_ n5_; (try clear hb); (try clear hb2); (try clear hk); (try clear hi); have hcz54_0 : w53.cell? ⟨gb155, 0, none⟩ = some (.int .i64 t152) := (blk_cell BK155.out 0).trans rfl; have hcz54_1 : w53.cell? ⟨gb155, 1, none⟩ = some (.complex .f32 (fv .quo .f32 (floatOfInt .f32 (wrap64 (1 + t156))) 1115684864) (fv .quo .f32 (floatOfInt .f32 t159) 1115684864)) := (blk_cell BK155.out 1).trans rfl; have hcz54_2 : w53.cell? ⟨gb155, 2, none⟩ = some (.complex .f32 0 0) := (blk_cell BK155.out 2).trans rfl; have hcz54_3 : w53.cell? ⟨gb155, 3, none⟩ = some (.int .i64 t162) := (blk_cell BK155.out 3).trans rfl; have hcz54_4 : w53.cell? ⟨gb155, 4, none⟩ = some (.complex .f32 (fv .quo .f32 (floatOfInt .f32 t165) 1082130432) (fv .quo .f32 (floatOfInt .f32 t168) 1082130432)) := (blk_cell BK155.out 4).trans rfl; have hcz54_5 : w53.cell? ⟨gb155, 5, none⟩ = some (.complex .f32 0 0) := (blk_cell BK155.out 5).trans rfl; have hcz54_6 : w53.cell? ⟨gb155, 6, none⟩ = some (.complex .f32 0 0) := (blk_cell BK155.out 6).trans rfl; have hcz54_7 : w53.cell? ⟨gb155, 7, none⟩ = some (.int .i64 0) := (blk_cell BK155.out 7).trans rfl; have hfz54_0 := blk_frozen BK155.out 0; have hfz54_1 := blk_frozen BK155.out 1; have hfz54_2 := blk_frozen BK155.out 2; have hfz54_3 := blk_frozen BK155.out 3; have hfz54_4 := blk_frozen BK155.out 4; have hfz54_5 := blk_frozen BK155.out 5; have hfz54_6 := blk_frozen BK155.out 6; have hfz54_7 := blk_frozen BK155.out 7) | ((with_reducible refine gate_callee (f := 73) rfl ?_); refine gx_ (some 68) Try.func73 #[.pointer (some ⟨g138, 0, none⟩), .int .i64 9] ?_; (with_reducible refine (spec_l00Src_pick.calls g138 t135 t172 t173 9 t174 t175 t176 w _ ?side1 ?side2 A31.out).mono ?_); (case side1 => have hi_ := HI138.out; exact IsS150.up); (case side2 => have ge_ := IsS150.ge HI138.out; exact tb); rintro e w55 ⟨rfl, hi, hb, hk⟩; refine ⟨_, rfl, ?_⟩; have n0_ := Aside0.mk (Kd.R_mono (Kd.R_keep (IsS150.apart (show IsS150 w _ g138 t135 t172 t173 from by have hi_ := HI138.out; exact IsS150.up) (by refine ru ?_; exact (Kd.R_mono (Kd.R_far (p := ⟨gb155, 5, none⟩) (Kd.R_mono HO_149003.out (fun k_ hk => (⟨hk, hk.2⟩ : _ ∧ k_ ≠ gb155))) (fun _ hk => hk.2) (.complex .f32 (fv .quo .f32 (floatOfInt .f32 t171) 1082130432) 0)) (fun _ h_ => h_.1))) (by decide)) hk (fun _ h => h.2)) (fun _ h => h.1)); have n1_ := Aside0.mk (KeepBut.blk hk (g' := gb134) (o := .cells #[.complex .f32 0 0, .complex .f32 0 0, .complex .f32 0 0, .slice none 0 0] 42 (0, 0)) (bv BK134.out) NB134_138.out (by simp)); have n2_ := Aside0.mk (KeepBut.blk hk (g' := gb148) (o := .cells #[.complex .f32 t142.re t142.im, .complex .f32 t143.re t143.im, .complex .f32 t144.re t144.im, .slice Ao38 x149003_1.length co38] 42 (0, 0)) (bv BK148.out) NB148_138.out (by simp)); have n3_ := Aside0.mk (KeepBut.blk hk (g' := gb155) (o := .cells #[.int .i64 t152, .complex .f32 (fv .quo .f32 (floatOfInt .f32 (wrap64 (1 + t156))) 1115684864) (fv .quo .f32 (floatOfInt .f32 t159) 1115684864), .complex .f32 0 0, .int .i64 t162, .complex .f32 (fv .quo .f32 (floatOfInt .f32 t165) 1082130432) (fv .quo .f32 (floatOfInt .f32 t168) 1082130432), .complex .f32 (fv .quo .f32 (floatOfInt .f32 t171) 1082130432) 0, .complex .f32 0 0, .int .i64 0] 66 (0, 0)) (by refine bu ?_; refine blk_put (cs := #[.int .i64 t152, .complex .f32 (fv .quo .f32 (floatOfInt .f32 (wrap64 (1 + t156))) 1115684864) (fv .quo .f32 (floatOfInt .f32 t159) 1115684864), .complex .f32 0 0, .int .i64 t162, .complex .f32 (fv .quo .f32 (floatOfInt .f32 t165) 1082130432) (fv .quo .f32 (floatOfInt .f32 t168) 1082130432), .complex .f32 0 0, .complex .f32 0 0, .int .i64 0]) ?_ 5 _ rfl; refine bu ?_; exact BK155.out) NB155_138.out (by simp)); have n4_ := Aside0.mk (hb); have n5_ := Aside0.mk (hi); clear HO_149003; clear BK134; clear BK148; clear BK155; clear HB; clear HI138; have HO_149003 := n0_; have BK134 := n1_; have BK148 := n2_; have BK155 := n3_; have HB := n4_; have HI138 := n5_; clear n0_ n1_ n2_ n3_ n4_ n5_; (try clear hb); (try clear hb2); (try clear hk); (try clear hi); have hcz56_0 : w55.cell? ⟨gb155, 0, none⟩ = some (.int .i64 t152) := (blk_cell BK155.out 0).trans rfl; have hcz56_1 : w55.cell? ⟨gb155, 1, none⟩ = some (.complex .f32 (fv .quo .f32 (floatOfInt .f32 (wrap64 (1 + t156))) 1115684864) (fv .quo .f32 (floatOfInt .f32 t159) 1115684864)) := (blk_cell BK155.out 1).trans rfl; have hcz56_2 : w55.cell? ⟨gb155, 2, none⟩ = some (.complex .f32 0 0) := (blk_cell BK155.out 2).trans rfl; have hcz56_3 : w55.cell? ⟨gb155, 3, none⟩ = some (.int .i64 t162) := (blk_cell BK155.out 3).trans rfl; have hcz56_4 : w55.cell? ⟨gb155, 4, none⟩ = some (.complex .f32 (fv .quo .f32 (floatOfInt .f32 t165) 1082130432) (fv .quo .f32 (floatOfInt .f32 t168) 1082130432)) := (blk_cell BK155.out 4).trans rfl; have hcz56_5 : w55.cell? ⟨gb155, 5, none⟩ = some (.complex .f32 (fv .quo .f32 (floatOfInt .f32 t171) 1082130432) 0) := (blk_cell BK155.out 5).trans rfl; have hcz56_6 : w55.cell? ⟨gb155, 6, none⟩ = some (.complex .f32 0 0) := (blk_cell BK155.out 6).trans rfl; have hcz56_7 : w55.cell? ⟨gb155, 7, none⟩ = some (.int .i64 0) := (blk_cell BK155.out 7).trans rfl; have hfz56_0 := blk_frozen BK155.out 0; have hfz56_1 := blk_frozen BK155.out 1; have hfz56_2 := blk_frozen BK155.out 2; have hfz56_3 := blk_frozen BK155.out 3; have hfz56_4 := blk_frozen BK155.out 4; have hfz56_5 := blk_frozen BK155.out 5; have hfz56_6 := blk_frozen BK155.out 6; have hfz56_7 := blk_frozen BK155.out 7) | ((with_reducible refine gate_callee (f := 73) rfl ?_); refine gx_ (some 75) Try.func73 #[.pointer (some ⟨g138, 0, none⟩), .int .i64 30] ?_; (with_reducible refine (spec_l00Src_pick.calls g138 t135 t175 t176 30 t177 t178 t179 w _ ?side1 ?side2 A33.out).mono ?_); (case side1 => have hi_ := HI138.out; exact IsS150.up); (case side2 => have ge_ := IsS150.ge HI138.out; exact tb); rintro e w57 ⟨rfl, hi, hb, hk⟩; refine ⟨_, rfl, ?_⟩; have n0_ := Aside0.mk (Kd.R_mono (Kd.R_keep (IsS150.apart (show IsS150 w _ g138 t135 t175 t176 from by have hi_ := HI138.out; exact IsS150.up) (by refine ru ?_; exact (Kd.R_mono (Kd.R_far (p := ⟨gb155, 6, none⟩) (Kd.R_mono HO_149003.out (fun k_ hk => (⟨hk, hk.2⟩ : _ ∧ k_ ≠ gb155))) (fun _ hk => hk.2) (.complex .f32 (fv .quo .f32 (floatOfInt .f32 t174) 1082130432) 0)) (fun _ h_ => h_.1))) (by decide)) hk (fun _ h => h.2)) (fun _ h => h.1)); have n1_ := Aside0.mk (KeepBut.blk hk (g' := gb134) (o := .cells #[.complex .f32 0 0, .complex .f32 0 0, .complex .f32 0 0, .slice none 0 0] 42 (0, 0)) (bv BK134.out) NB134_138.out (by simp)); have n2_ := Aside0.mk (KeepBut.blk hk (g' := gb148) (o := .cells #[.complex .f32 t142.re t142.im, .complex .f32 t143.re t143.im, .complex .f32 t144.re t144.im, .slice Ao38 x149003_1.length co38] 42 (0, 0)) (bv BK148.out) NB148_138.out (by simp)); have n3_ := Aside0.mk (KeepBut.blk hk (g' := gb155) (o := .cells #[.int .i64 t152, .complex .f32 (fv .quo .f32 (floatOfInt .f32 (wrap64 (1 + t156))) 1115684864) (fv .quo .f32 (floatOfInt .f32 t159) 1115684864), .complex .f32 0 0, .int .i64 t162, .complex .f32 (fv .quo .f32 (floatOfInt .f32 t165) 1082130432) (fv .quo .f32 (floatOfInt .f32 t168) 1082130432), .complex .f32 (fv .quo .f32 (floatOfInt .f32 t171) 1082130432) 0, .complex .f32 (fv .quo .f32 (floatOfInt .f32 t174) 1082130432) 0, .int .i64 0] 66 (0, 0)) (by refine bu ?_; refine blk_put (cs := #[.int .i64 t152, .complex .f32 (fv .quo .f32 (floatOfInt .f32 (wrap64 (1 + t156))) 1115684864) (fv .quo .f32 (floatOfInt .f32 t159) 1115684864), .complex .f32 0 0, .int .i64 t162, .complex .f32 (fv .quo .f32 (floatOfInt .f32 t165) 1082130432) (fv .quo .f32 (floatOfInt .f32 t168) 1082130432), .complex .f32 (fv .quo .f32 (floatOfInt .f32 t171) 1082130432) 0, .complex .f32 0 0, .int .i64 0]) ?_ 6 _ rfl; refine bu ?_; exact BK155.out) NB155_138.out (by simp)); have n4_ := Aside0.mk (hb); have n5_ := Aside0.mk (hi); clear HO_149003; clear BK134; clear BK148; clear BK155; clear HB; clear HI138; have HO_149003 := n0_; have BK134 := n1_; have BK148 := n2_; have BK155 := n3_; have HB := n4_; have HI138 := n5_; clear n0_ n1_ n2_ n3_ n4_ n5_; (try clear hb); (try clear hb2); (try clear hk); (try clear hi); have hcz58_0 : w57.cell? ⟨gb155, 0, none⟩ = some (.int .i64 t152) := (blk_cell BK155.out 0).trans rfl; have hcz58_1 : w57.cell? ⟨gb155, 1, none⟩ = some (.complex .f32 (fv .quo .f32 (floatOfInt .f32 (wrap64 (1 + t156))) 1115684864) (fv .quo .f32 (floatOfInt .f32 t159) 1115684864)) := (blk_cell BK155.out 1).trans rfl; have hcz58_2 : w57.cell? ⟨gb155, 2, none⟩ = some (.complex .f32 0 0) := (blk_cell BK155.out 2).trans rfl; have hcz58_3 : w57.cell? ⟨gb155, 3, none⟩ = some (.int .i64 t162) := (blk_cell BK155.out 3).trans rfl; have hcz58_4 : w57.cell? ⟨gb155, 4, none⟩ = some (.complex .f32 (fv .quo .f32 (floatOfInt .f32 t165) 1082130432) (fv .quo .f32 (floatOfInt .f32 t168) 1082130432)) := (blk_cell BK155.out 4).trans rfl; have hcz58_5 : w57.cell? ⟨gb155, 5, none⟩ = some (.complex .f32 (fv .quo .f32 (floatOfInt .f32 t171) 1082130432) 0) := (blk_cell BK155.out 5).trans rfl; have hcz58_6 : w57.cell? ⟨gb155, 6, none⟩ = some (.complex .f32 (fv .quo .f32 (floatOfInt .f32 t174) 1082130432) 0) := (blk_cell BK155.out 6).trans rfl; have hcz58_7 : w57.cell? ⟨gb155, 7, none⟩ = some (.int .i64 0) := (blk_cell BK155.out 7).trans rfl; have hfz58_0 := blk_frozen BK155.out 0; have hfz58_1 := blk_frozen BK155.out 1; have hfz58_2 := blk_frozen BK155.out 2; have hfz58_3 := blk_frozen BK155.out 3; have hfz58_4 := blk_frozen BK155.out 4; have hfz58_5 := blk_frozen BK155.out 5; have hfz58_6 := blk_frozen BK155.out 6; have hfz58_7 := blk_frozen BK155.out 7; have hcz59_0 : w57.cell? ⟨gb148, 0, none⟩ = some (.complex .f32 t142.re t142.im) := (blk_cell BK148.out 0).trans rfl; have hcz59_1 : w57.cell? ⟨gb148, 1, none⟩ = some (.complex .f32 t143.re t143.im) := (blk_cell BK148.out 1).trans rfl; have hcz59_2 : w57.cell? ⟨gb148, 2, none⟩ = some (.complex .f32 t144.re t144.im) := (blk_cell BK148.out 2).trans rfl; have hcz59_3 : w57.cell? ⟨gb148, 3, none⟩ = some (.slice Ao38 x149003_1.length co38) := (blk_cell BK148.out 3).trans rfl; have hfz59_0 := blk_frozen BK148.out 0; have hfz59_1 := blk_frozen BK148.out 1; have hfz59_2 := blk_frozen BK148.out 2; have hfz59_3 := blk_frozen BK148.out 3) | ((with_reducible refine gate_builtin (b := .append) (xs := #[.tmp 78, .tmp 80]) rfl ?_); at_builtin; refine Kd.R_append k66 (w0 := w) w.heap.size rfl (.tmp 78) (.tmp 80) 40 66 (.agg #[(.int .i64 0), (.complex .f32 0 0), (.complex .f32 0 0), (.int .i64 0), (.complex .f32 0 0), (.complex .f32 0 0), (.complex .f32 0 0), (.int .i64 0)]) 64 rfl Try.underlying40 info66 rfl (by decide) (by omega) (.slice Ao38 x149003_1.length co38) x149003_1 (⟨t152, (⟨fv .quo .f32 (floatOfInt .f32 (wrap64 (1 + t156))) 1115684864, fv .quo .f32 (floatOfInt .f32 t159) 1115684864⟩ : Cx), (⟨0, 0⟩ : Cx), t162, (⟨(⟨fv .quo .f32 (floatOfInt .f32 t165) 1082130432, fv .quo .f32 (floatOfInt .f32 t168) 1082130432⟩ : Cx), (⟨fv .quo .f32 (floatOfInt .f32 t171) 1082130432, 0⟩ : Cx), (⟨fv .quo .f32 (floatOfInt .f32 t174) 1082130432, 0⟩ : Cx)⟩ : S39), t177⟩ : S66) [.int .i64 t152, .complex .f32 (fv .quo .f32 (floatOfInt .f32 (wrap64 (1 + t156))) 1115684864) (fv .quo .f32 (floatOfInt .f32 t159) 1115684864), .complex .f32 0 0, .int .i64 t162, .complex .f32 (fv .quo .f32 (floatOfInt .f32 t165) 1082130432) (fv .quo .f32 (floatOfInt .f32 t168) 1082130432), .complex .f32 (fv .quo .f32 (floatOfInt .f32 t171) 1082130432) 0, .complex .f32 (fv .quo .f32 (floatOfInt .f32 t174) 1082130432) 0, .int .i64 t177] (fun k_ => k_ ≠ gb155) (fun _ => False) rfl (by first | (go_simp; done) | (go_simp; rfl)) ?aP (fun _ hk => hk.elim) ?aF ?aO ?aB ?aS ?aL ?_; (case aP => exact k66_mkM _ _ _ (⟨t152, (⟨fv .quo .f32 (floatOfInt .f32 (wrap64 (1 + t156))) 1115684864, fv .quo .f32 (floatOfInt .f32 t159) 1115684864⟩ : Cx), (⟨0, 0⟩ : Cx), t162, (⟨(⟨fv .quo .f32 (floatOfInt .f32 t165) 1082130432, fv .quo .f32 (floatOfInt .f32 t168) 1082130432⟩ : Cx), (⟨fv .quo .f32 (floatOfInt .f32 t171) 1082130432, 0⟩ : Cx), (⟨fv .quo .f32 (floatOfInt .f32 t174) 1082130432, 0⟩ : Cx)⟩ : S39), t177⟩ : S66)); (case aB => exact (by have ge_ := IsS150.ge HI138.out; exact tb)); (case aF => exact (fun k_ hk => Kd.freshB (g := gb155) (o := .cells #[.int .i64 t152, .complex .f32 (fv .quo .f32 (floatOfInt .f32 (wrap64 (1 + t156))) 1115684864) (fv .quo .f32 (floatOfInt .f32 t159) 1115684864), .complex .f32 0 0, .int .i64 t162, .complex .f32 (fv .quo .f32 (floatOfInt .f32 t165) 1082130432) (fv .quo .f32 (floatOfInt .f32 t168) 1082130432), .complex .f32 (fv .quo .f32 (floatOfInt .f32 t171) 1082130432) 0, .complex .f32 (fv .quo .f32 (floatOfInt .f32 t174) 1082130432) 0, .int .i64 t177] 66 (0, 0)) (by refine bu ?_; refine blk_put (cs := #[.int .i64 t152, .complex .f32 (fv .quo .f32 (floatOfInt .f32 (wrap64 (1 + t156))) 1115684864) (fv .quo .f32 (floatOfInt .f32 t159) 1115684864), .complex .f32 0 0, .int .i64 t162, .complex .f32 (fv .quo .f32 (floatOfInt .f32 t165) 1082130432) (fv .quo .f32 (floatOfInt .f32 t168) 1082130432), .complex .f32 (fv .quo .f32 (floatOfInt .f32 t171) 1082130432) 0, .complex .f32 (fv .quo .f32 (floatOfInt .f32 t174) 1082130432) 0, .int .i64 0]) ?_ 7 _ rfl; refine bu ?_; exact BK155.out) k_ hk)); (case aO => exact (by refine ru ?_; exact Kd.R_mono (Kd.R_far (p := ⟨gb155, 7, none⟩) (Kd.R_mono HO_149003.out (fun k_ hk => (⟨hk, hk.2⟩ : _ ∧ k_ ≠ gb155))) (fun _ hk => hk.2) (.int .i64 t177)) (fun _ hk => hk.1.2))); (case aS => exact (below_size (by have ge_ := IsS150.ge HI138.out; exact tb))); (case aL => have := LMc34.out; omega); intro v181 w60 ho hb hg hat; rw [← Ny180.out] at ho; have n0_ := Aside0.mk (blk_grown (g := gb134) (o := .cells #[.complex .f32 0 0, .complex .f32 0 0, .complex .f32 0 0, .slice none 0 0] 42 (0, 0)) (bv BK134.out) hg (Kd.R_ne HO_149003.out BK134.out (by decide))); have n1_ := Aside0.mk (blk_grown (g := gb148) (o := .cells #[.complex .f32 t142.re t142.im, .complex .f32 t143.re t143.im, .complex .f32 t144.re t144.im, .slice Ao38 x149003_1.length co38] 42 (0, 0)) (bv BK148.out) hg (Kd.R_ne HO_149003.out BK148.out (by decide))); have n2_ := Aside0.mk (IsS150.grown (show IsS150 w _ g138 t135 t178 t179 from by have hi_ := HI138.out; exact IsS150.up) hg (IsS150.own_ne HI138.out HO_149003.out (by decide))); have n3_ := Aside0.mk (blk_grown (g := gb155) (o := .cells #[.int .i64 t152, .complex .f32 (fv .quo .f32 (floatOfInt .f32 (wrap64 (1 + t156))) 1115684864) (fv .quo .f32 (floatOfInt .f32 t159) 1115684864), .complex .f32 0 0, .int .i64 t162, .complex .f32 (fv .quo .f32 (floatOfInt .f32 t165) 1082130432) (fv .quo .f32 (floatOfInt .f32 t168) 1082130432), .complex .f32 (fv .quo .f32 (floatOfInt .f32 t171) 1082130432) 0, .complex .f32 (fv .quo .f32 (floatOfInt .f32 t174) 1082130432) 0, .int .i64 t177] 66 (0, 0)) (by refine bu ?_; refine blk_put (cs := #[.int .i64 t152, .complex .f32 (fv .quo .f32 (floatOfInt .f32 (wrap64 (1 + t156))) 1115684864) (fv .quo .f32 (floatOfInt .f32 t159) 1115684864), .complex .f32 0 0, .int .i64 t162, .complex .f32 (fv .quo .f32 (floatOfInt .f32 t165) 1082130432) (fv .quo .f32 (floatOfInt .f32 t168) 1082130432), .complex .f32 (fv .quo .f32 (floatOfInt .f32 t171) 1082130432) 0, .complex .f32 (fv .quo .f32 (floatOfInt .f32 t174) 1082130432) 0, .int .i64 0]) ?_ 7 _ rfl; refine bu ?_; exact BK155.out) hg (Kd.R_away HO_149003.out (fun _ hk => hk.2))); have n4_ := Aside0.mk (hb); have n5_ := Aside0.mk (ho); clear BK134; clear BK148; clear HI138; clear BK155; clear HB; clear HO_149003; have BK134 := n0_; have BK148 := n1_; have HI138 := n2_; have BK155 := n3_; have HB := n4_; have HO182 := n5_; clear n0_ n1_ n2_ n3_ n4_ n5_; clear ho hb hg hat; obtain ⟨Ao61, co61, eo61⟩ := Kd.R_slice HO182.out; subst eo61; have hcz62_0 : w60.cell? ⟨gb148, 0, none⟩ = some (.complex .f32 t142.re t142.im) := (blk_cell BK148.out 0).trans rfl; have hcz62_1 : w60.cell? ⟨gb148, 1, none⟩ = some (.complex .f32 t143.re t143.im) := (blk_cell BK148.out 1).trans rfl; have hcz62_2 : w60.cell? ⟨gb148, 2, none⟩ = some (.complex .f32 t144.re t144.im) := (blk_cell BK148.out 2).trans rfl; have hcz62_3 : w60.cell? ⟨gb148, 3, none⟩ = some (.slice Ao38 x149003_1.length co38) := (blk_cell BK148.out 3).trans rfl; have hfz62_0 := blk_frozen BK148.out 0; have hfz62_1 := blk_frozen BK148.out 1; have hfz62_2 := blk_frozen BK148.out 2; have hfz62_3 := blk_frozen BK148.out 3))
           go_roundg k1
           case measure => have := HK1.out; omega
           case rel => exact ⟨(wrap64 (x5_1 - 1)), (t178), (t179), (y180), (.slice Ao61 y180.length co61), rs_, H', ⟨by have := HK1.out; omega⟩, ⟨by refine ru ?_; exact Kd.R_mono (Kd.R_far (p := ⟨gb148, 3, none⟩) (Kd.R_types HO182.out BK148.out (by decide)) (fun _ hk => hk.2) (.slice Ao61 y180.length co61)) (fun _ hk => trivial)⟩, ⟨by refine bv ?_; exact BK134.out⟩, ⟨by refine bu ?_; refine blk_put (cs := #[.complex .f32 t142.re t142.im, .complex .f32 t143.re t143.im, .complex .f32 t144.re t144.im, .slice Ao38 x149003_1.length co38]) ?_ 3 _ rfl; refine bu ?_; exact BK148.out⟩, ⟨by have hi_ := HI138.out; exact IsS150.up⟩, ⟨by have ge_ := IsS150.ge HI138.out; exact tb⟩⟩
          ·rw [if_neg c34] at H
           exact absurd H (by simp)
         ·rw [if_neg c32] at H
          exact absurd H (by simp)
        ·rw [if_neg c30] at H
         exact absurd H (by simp)
       ·rw [if_neg c28] at H
        exact absurd H (by simp)
      ·rw [if_neg c26] at H
       exact absurd H (by simp)
     ·rw [if_neg c23] at H
      exact absurd H (by simp)
    ·rw [if_neg c21] at H
     exact absurd H (by simp)
   ·rw [if_neg c18] at H
    have c18b0 : decide (0 < x5_1) = false := decide_eq_false c18
    clear c18
    simp only [Option.some.injEq, Prod.mk.injEq] at H
    obtain ⟨rfl, rfl, rfl, rfl⟩ := H
    have hnb63 := NB148_134.out
    have hnc63 := NB134_148.out
    have hnb64 := NB148_138.out
    have hnc64 := NB138_148.out
    have hcz65_0 : wr.cell? ⟨gb148, 0, none⟩ = some (.complex .f32 t142.re t142.im) := (blk_cell BK148.out 0).trans rfl
    have hcz65_1 : wr.cell? ⟨gb148, 1, none⟩ = some (.complex .f32 t143.re t143.im) := (blk_cell BK148.out 1).trans rfl
    have hcz65_2 : wr.cell? ⟨gb148, 2, none⟩ = some (.complex .f32 t144.re t144.im) := (blk_cell BK148.out 2).trans rfl
    have hcz65_3 : wr.cell? ⟨gb148, 3, none⟩ = some (u149003) := (blk_cell BK148.out 3).trans rfl
    have hfz65_0 := blk_frozen BK148.out 0
    have hfz65_1 := blk_frozen BK148.out 1
    have hfz65_2 := blk_frozen BK148.out 2
    have hfz65_3 := blk_frozen BK148.out 3
    have hnb66 := NB134_138.out
    have hnc66 := NB138_134.out
    have hcz67_0 : wr.cell? ⟨gb134, 0, none⟩ = some (.complex .f32 0 0) := (blk_cell BK134.out 0).trans rfl
    have hcz67_1 : wr.cell? ⟨gb134, 1, none⟩ = some (.complex .f32 0 0) := (blk_cell BK134.out 1).trans rfl
    have hcz67_2 : wr.cell? ⟨gb134, 2, none⟩ = some (.complex .f32 0 0) := (blk_cell BK134.out 2).trans rfl
    have hcz67_3 : wr.cell? ⟨gb134, 3, none⟩ = some (.slice none 0 0) := (blk_cell BK134.out 3).trans rfl
    have hfz67_0 := blk_frozen BK134.out 0
    have hfz67_1 := blk_frozen BK134.out 1
    have hfz67_2 := blk_frozen BK134.out 2
    have hfz67_3 := blk_frozen BK134.out 3
    obtain ⟨Ao68, co68, eo68⟩ := Kd.R_slice HO_149003.out
    subst eo68
    go_wp2
    refine bodyPost_ret (results_cell_row rfl _ _ gb134 42 #[.complex .f32 t142.re t142.im, .complex .f32 t143.re t143.im, .complex .f32 t144.re t144.im, .slice Ao68 x149003_1.length co68] (0, 0) _ rfl (by refine bu ?_; refine blk_put (cs := #[.complex .f32 t142.re t142.im, .complex .f32 t143.re t143.im, .complex .f32 t144.re t144.im, .slice none 0 0]) ?_ 3 _ rfl; refine bu ?_; refine blk_put (cs := #[.complex .f32 t142.re t142.im, .complex .f32 t143.re t143.im, .complex .f32 0 0, .slice none 0 0]) ?_ 2 _ rfl; refine bu ?_; refine blk_put (cs := #[.complex .f32 t142.re t142.im, .complex .f32 0 0, .complex .f32 0 0, .slice none 0 0]) ?_ 1 _ rfl; refine bu ?_; refine blk_put (cs := #[.complex .f32 0 0, .complex .f32 0 0, .complex .f32 0 0, .slice none 0 0]) ?_ 0 _ rfl; refine bu ?_; exact BK134.out) Try.underlying42 rfl (by kernel_rfl)) rfl ?_
    exact ⟨_, re_, by refine ru ?_; exact Kd.R_mono (Kd.R_far (p := ⟨gb134, 3, none⟩) (Kd.R_far (p := ⟨gb134, 2, none⟩) (Kd.R_far (p := ⟨gb134, 1, none⟩) (Kd.R_far (p := ⟨gb134, 0, none⟩) (Kd.R_types HO_149003.out BK134.out (by decide)) (fun _ hk => hk.2) (.complex .f32 t142.re t142.im)) (fun _ hk => hk.2) (.complex .f32 t143.re t143.im)) (fun _ hk => hk.2) (.complex .f32 t144.re t144.im)) (fun _ hk => hk.2) (.slice Ao68 x149003_1.length co68)) (fun _ hk => trivial), by have ge_ := IsS150.ge HI138.out; exact tb⟩

end Go.Proofs.Ytcgpomicgbmdlaa.PFnBanks
namespace Go.Proofs.Ytcgpomicgbmdlaa.PFnBanks
open Go.RowKit Go.Proofs.YtcgpomicgbmdlaaW.PrintWords Go.Proofs.YtcgpomicgbmdlaaW.PrintLast Go.Proofs.YtcgpomicgbmdlaaW.PrintMore
attribute [local go_sem] max2_int min2_int max_two min_two max_three min_three max_four min_four   -- for this text's walks alone
set_option linter.unusedVariables false
set_option linter.unusedSimpArgs false

/-! ### slices_Clone_impl_Bus: function 130 -/
def slices_Clone_impl_Bus.f (l0 : List (S66)) : Option ((List (S66))) := (some (([] : List (S66)) : List (S66))).bind fun y183 => (if y183.length + l0.length < 2199023255552 then (some (y183 ++ l0)) else (none))
set_option maxHeartbeats 8000000 in
set_option maxRecDepth 100000 in
theorem slices_Clone_impl_Bus.calls_some (ad0_ : Addr) (c0 : Nat) (l0 : List (S66)) (r : List (S66)) (w : World) (hr0 : Kd.C k66 w (some ad0_) l0.length l0) (hc0 : l0.length ≤ c0) (h : slices_Clone_impl_Bus.f l0 = some r) :
  Calls Try.prog 130 #[.slice (some ad0_) l0.length c0] w fun e w' => ∃ v0_ : Value, e = .returned (v0_) ∧ Kd.R k66 66 w' w.heap.size (fun _ => True) v0_ r ∧ Below w.heap.size w w' := by
 have hun_ := Try.underlying40
 have HR0 := Aside0.mk hr0
 have HC0 := Aside0.mk hc0
 clear hr0 hc0
 have HB := Aside0.mk (Below.refl w.heap.size w)
 have H : ((some (([] : List (S66)) : List (S66))).bind fun y183 => (if y183.length + l0.length < 2199023255552 then (some (y183 ++ l0)) else (none))) = some r := h
 clear h
 obtain ⟨y183, hy183⟩ : ∃ y_ : List (S66), y_ = (([] : List (S66))) := ⟨_, rfl⟩
 replace H : (if y183.length + l0.length < 2199023255552 then (some (y183 ++ l0)) else (none)) = some r := by first | (rw [hy183]; with_reducible exact H) | (have H2_ := (Option.bind_some _ _).symm.trans H; rw [hy183]; with_reducible exact H2_) | (have H2_ := (Option.bind_some _ _).symm.trans H; with_reducible exact H2_) | with_reducible exact H | (rw [hy183]; exact H) | exact H
 have Ny183 := Aside0.mk hy183
 clear hy183
 by_cases c2 : y183.length + l0.length < 2199023255552
 ·rw [if_pos c2] at H
  have LMc2 := Aside0.mk c2
  clear c2
  obtain ⟨y186, hy186⟩ : ∃ y_ : List (S66), y_ = (y183 ++ l0) := ⟨_, rfl⟩
  replace H : (some y186) = some r := by first | (rw [hy186]; with_reducible exact H) | (have H2_ := (Option.bind_some _ _).symm.trans H; rw [hy186]; with_reducible exact H2_) | (have H2_ := (Option.bind_some _ _).symm.trans H; with_reducible exact H2_) | with_reducible exact H | (rw [hy186]; exact H) | exact H
  have Ny186 := Aside0.mk hy186
  clear hy186
  obtain rfl := Option.some.inj H
  go_enter Try.func130, Try.ntmps130
  go_wp2_with (first | ((with_reducible refine gate_dst (N := 5) rfl ?_); refine Kd.R_lit k66 _ 66 ?hg (N := 5) ?hd (xs := ([] : List (S66))) (inner := []) (ok := fun _ => True) (okp := fun _ => True) ?hr ?hp (fun _ hk => hk) trivial (Below.refl _ _) (Nat.le_refl _) (by simp) ?_; (case hd => rfl); (case hg => rfl); (case hr => first | (go_simp; done) | (go_simp; rfl)); (case hp => exact (Reps.none _ _)); intro v184 w3 ho4 hb hg_ hnew_; clear hg_ hnew_; (first | rw [← Ny183.out] at ho4 | (simp only [Int.reduceToNat] at ho4; rw [← Ny183.out] at ho4)); have n0_ := Aside0.mk (Kd.R_lower ho4 (below_size tb)); have n1_ := Aside0.mk (below_step tb hb); clear HB; have HO185 := n0_; have HB := n1_; clear n0_ n1_; clear hb ho4) | ((with_reducible refine gate_builtin (b := .append) (xs := #[.tmp 5, .tmp 6]) rfl ?_); at_builtin; refine Kd.R_append_rows k66 (w0 := w) w.heap.size rfl (.tmp 5) (.tmp 6) 40 66 (.agg #[(.int .i64 0), (.complex .f32 0 0), (.complex .f32 0 0), (.int .i64 0), (.complex .f32 0 0), (.complex .f32 0 0), (.complex .f32 0 0), (.int .i64 0)]) 64 rfl Try.underlying40 info66 rfl (by decide) (by omega) v184 y183 l0 _ _ _ (fun _ => True) (fun _ => False) rfl rfl ?aO ?aR (fun _ _ h => h) (fun _ h => h.elim) ?aF ?aB ?aS ?aL ?_; (case aR => exact cu ((Kd.C_below HR0.out HB.out))); (case aB => exact tb); (case aF => exact (fun _ _ => trivial)); (case aO => exact (ru HO185.out)); (case aS => exact (below_size tb)); (case aL => have := LMc2.out; omega); intro v187 w5 ho hb hg hat; rw [← Ny186.out] at ho; have n0_ := Aside0.mk (hb); have n1_ := Aside0.mk (ho); clear HB; clear HO185; have HB := n0_; have HO188 := n1_; clear n0_ n1_; clear ho hb hg hat))
  go_ret
  exact ⟨_, re_, by refine ru ?_; exact HO188.out, tb⟩
 ·rw [if_neg c2] at H
  exact absurd H (by simp)
-- HU 40
set_option maxHeartbeats 8000000 in
set_option maxRecDepth 100000 in
theorem slices_Clone_impl_Bus.calls (A0 : Option Addr) (c0 : Nat) (l0 : List (S66)) (r : List (S66)) (w : World) (hr0 : Kd.C k66 w A0 l0.length l0) (hc0 : l0.length ≤ c0) (h : slices_Clone_impl_Bus.f l0 = some r) :
  Calls Try.prog 130 #[.slice A0 l0.length c0] w fun e w' => ∃ v0_ : Value, e = .returned (v0_) ∧ Kd.R k66 66 w' w.heap.size (fun _ => True) v0_ r ∧ Below w.heap.size w w' := by
 cases A0 with
 | some ad => exact slices_Clone_impl_Bus.calls_some ad c0 l0 r w hr0 hc0 h
 | none =>
  have hl : l0 = [] := by
   obtain ⟨_, _, h3⟩ := hr0
   cases l0 with
   | nil => rfl
   | cons x xs => simpa using h3 (by simp)
  subst hl
  have hr : r = [] := by simpa [slices_Clone_impl_Bus.f, eq_comm] using h
  subst hr
  clear h hr0 hc0
  have hu40 := Try.underlying40
  go_enter Try.func130, Try.ntmps130
  go_wp2
  go_ret
  exact ⟨_, rfl, Kd.R_nil _ _ _ _ _, Below.refl _ _⟩

end Go.Proofs.Ytcgpomicgbmdlaa.PFnBanks
namespace Go.Proofs.Ytcgpomicgbmdlaa.PFnBanks
open Go.RowKit Go.Proofs.YtcgpomicgbmdlaaW.PrintWords Go.Proofs.YtcgpomicgbmdlaaW.PrintLast Go.Proofs.YtcgpomicgbmdlaaW.PrintMore
attribute [local go_sem] max2_int min2_int max_two min_two max_three min_three max_four min_four   -- for this text's walks alone
set_option linter.unusedVariables false
set_option linter.unusedSimpArgs false

/-! ### impl_cloneFeeder: function 79 -/
def impl_cloneFeeder.f (a0_0 : Cx) (a0_1 : Cx) (a0_2 : Cx) (l0_3 : List (S66)) : Option (Cx × Cx × Cx × (List (S66))) := (slices_Clone_impl_Bus.f l0_3).bind fun t191 => (some (a0_0, a0_1, a0_2, t191))
set_option maxHeartbeats 8000000 in
set_option maxRecDepth 100000 in
theorem impl_cloneFeeder.calls (a0_0 : Cx) (a0_1 : Cx) (a0_2 : Cx) (A0_3 : Option Addr) (c0_3 : Nat) (l0_3 : List (S66)) (r1 : Cx) (r2 : Cx) (r3 : Cx) (r4 : List (S66)) (w : World) (hr0_3 : Kd.C k66 w A0_3 l0_3.length l0_3) (hc0_3 : l0_3.length ≤ c0_3) (h : impl_cloneFeeder.f a0_0 a0_1 a0_2 l0_3 = some (r1, r2, r3, r4)) :
  Calls Try.prog 79 #[.agg #[.complex .f32 a0_0.re a0_0.im, .complex .f32 a0_1.re a0_1.im, .complex .f32 a0_2.re a0_2.im, .slice A0_3 l0_3.length c0_3]] w fun e w' => ∃ v3_ : Value, e = .returned (.agg #[.complex .f32 r1.re r1.im, .complex .f32 r2.re r2.im, .complex .f32 r3.re r3.im, v3_]) ∧ Kd.R k66 66 w' w.heap.size (fun _ => True) v3_ r4 ∧ Below w.heap.size w w' := by
 have hu42 := Try.underlying42
 have hu39 := Try.underlying39
 have HR0_3 := Aside0.mk hr0_3
 have HC0_3 := Aside0.mk hc0_3
 clear hr0_3 hc0_3
 have HB := Aside0.mk (Below.refl w.heap.size w)
 have H : ((slices_Clone_impl_Bus.f l0_3).bind fun t191 => (some (a0_0, a0_1, a0_2, t191))) = some (r1, r2, r3, r4) := h
 clear h
 replace H := Option.bind_eq_some_iff.mp H
 obtain ⟨t191, A20, H⟩ := H
 try dsimp only at H
 have A2 := Aside0.mk A20
 clear A20
 simp only [Option.some.injEq, Prod.mk.injEq] at H
 obtain ⟨rfl, rfl, rfl, rfl⟩ := H
 go_enter Try.func79, Try.ntmps79
 try go_wp2_with (first | ((with_reducible refine gate_dst (N := 1) rfl ?_); refine box_event ?hg (N := 1) ?hd (cs := #[.complex .f32 a0_0.re a0_0.im, .complex .f32 a0_1.re a0_1.im, .complex .f32 a0_2.re a0_2.im, .slice A0_3 l0_3.length c0_3]) (t := 42) ?hr ?_; (case hd => rfl); (case hg => rfl); (case hr => first | (go_simp; done) | (go_simp; rfl)); intro gb189 hg w3 hbox hb; have n0_ := Aside0.mk (below_step tb hb); have n1_ := Aside0.mk (hbox); have n2_ := Aside0.mk ((by rw [hg]; exact (below_size tb) : w.heap.size ≤ gb189)); have n3_ := Aside0.mk ((by rw [hg]; exact (below_size tb) : w.heap.size ≤ gb189)); clear HB; have HB := n0_; have BK189 := n1_; have GW189 := n2_; have GE189 := n3_; clear n0_ n1_ n2_ n3_; clear hb hbox hg) | ((with_reducible refine gate_dst (N := 2) rfl ?_); refine box_event ?hg (N := 2) ?hd (cs := #[.complex .f32 0 0, .complex .f32 0 0, .complex .f32 0 0, .slice none 0 0]) (t := 42) ?hr ?_; (case hd => rfl); (case hg => rfl); (case hr => first | (go_simp; done) | (go_simp; rfl)); intro gb190 hg w4 hbox hb; have n0_ := Aside0.mk (blk_below (g := gb189) (o := .cells #[.complex .f32 a0_0.re a0_0.im, .complex .f32 a0_1.re a0_1.im, .complex .f32 a0_2.re a0_2.im, .slice A0_3 l0_3.length c0_3] 42 (0, 0)) (bu BK189.out) hb); have n1_ := Aside0.mk (below_step tb hb); have n2_ := Aside0.mk (hbox); have n3_ := Aside0.mk ((by rw [hg]; exact (below_size tb) : w.heap.size ≤ gb190)); have n4_ := Aside0.mk ((by rw [hg]; exact (below_size tb) : w.heap.size ≤ gb190)); have n5_ := Aside0.mk ((by rw [hg]; exact Nat.ne_of_lt (blk_lt (g := gb189) (o := .cells #[.complex .f32 a0_0.re a0_0.im, .complex .f32 a0_1.re a0_1.im, .complex .f32 a0_2.re a0_2.im, .slice A0_3 l0_3.length c0_3] 42 (0, 0)) (bu BK189.out)) : gb189 ≠ gb190)); have n6_ := Aside0.mk ((by rw [hg]; exact Nat.ne_of_gt (blk_lt (g := gb189) (o := .cells #[.complex .f32 a0_0.re a0_0.im, .complex .f32 a0_1.re a0_1.im, .complex .f32 a0_2.re a0_2.im, .slice A0_3 l0_3.length c0_3] 42 (0, 0)) (bu BK189.out)) : gb190 ≠ gb189)); clear BK189; clear HB; have BK189 := n0_; have HB := n1_; have BK190 := n2_; have GW190 := n3_; have GE190 := n4_; have NB189_190 := n5_; have NB190_189 := n6_; clear n0_ n1_ n2_ n3_ n4_ n5_ n6_; clear hb hbox hg))
 have n0_ := Aside0.mk (blk_drew BK189.out)
 have n1_ := Aside0.mk (blk_drew BK190.out)
 have n2_ := Aside0.mk (below_drew1 HB.out)
 clear BK189
 clear BK190
 clear HB
 have BK189 := n0_
 have BK190 := n1_
 have HB := n2_
 clear n0_ n1_ n2_
 refine start_ (n := 7) (S := fun w' => w'.cell? ⟨gb189, 0, none⟩ = some (.complex .f32 a0_0.re a0_0.im) ∧ w'.cell? ⟨gb189, 1, none⟩ = some (.complex .f32 a0_1.re a0_1.im) ∧ w'.cell? ⟨gb189, 2, none⟩ = some (.complex .f32 a0_2.re a0_2.im) ∧ w'.cell? ⟨gb189, 3, none⟩ = some (.slice A0_3 l0_3.length c0_3)) (ds := []) #[false, false, false, false, false, false, false] (by kernel_rfl) rfl rfl ⟨(blk_cell BK189.out 0).trans rfl, (blk_cell BK189.out 1).trans rfl, (blk_cell BK189.out 2).trans rfl, (blk_cell BK189.out 3).trans rfl⟩ (fun hHeld => ?_)
 generalize w4.drew = w5 at BK189 BK190 HB hHeld ⊢
 refine pure_ (i := 0) (N := some 3) (v := ?_) (a' := ?_) #[true, false, false, false, false, false, false] rfl rfl (by kernel_rfl) (fun _ _ _ h => h) (Or.inl ⟨by rfl, ?_⟩) ?_ ?_
 rotate_left
 ·intro w'
  go_simp
  with_reducible rfl
 rotate_left
 ·refine ps_ ?_
  rfl
 refine pure_ (i := 2) (N := some 5) (v := ?_) (a' := ?_) #[true, false, true, false, false, false, false] rfl rfl (by kernel_rfl) (fun _ _ _ h => h) (Or.inl ⟨by rfl, ?_⟩) ?_ ?_
 rotate_left
 ·intro w'
  go_simp
  with_reducible rfl
 rotate_left
 ·refine ps_ ?_
  rfl
 refine take_ (i := 1) (N := some 4) (v := ?_) (a' := ?_) #[true, true, true, false, false, false, false] rfl rfl (by kernel_rfl) (fun _ _ _ h => h) (Or.inl ⟨by rfl, ?_⟩) hHeld ?_ ?_
 rotate_left
 ·rintro w' ⟨s0, s1, s2, s3⟩
  go_simp
  with_reducible rfl
 rotate_left
 ·refine ps_ ?_
  rfl
 refine take_ (i := 3) (N := some 6) (v := ?_) (a' := ?_) #[true, true, true, true, false, false, false] rfl rfl (by kernel_rfl) (fun _ _ _ h => h) (Or.inl ⟨by rfl, ?_⟩) hHeld ?_ ?_
 rotate_left
 ·rintro w' ⟨s0, s1, s2, s3⟩
  go_simp
  with_reducible rfl
 rotate_left
 ·refine ps_ ?_
  rfl
 refine one_ (i := 4) (N := some 7) #[true, true, true, true, true, false, false] rfl rfl (by kernel_rfl) (by decide) (fun K hK => ?_)
 refine goes_ Try.func130 (by kernel_rfl) rfl #[.slice A0_3 l0_3.length c0_3] (by rfl) rfl rfl mp_ ?_
 with_reducible refine (slices_Clone_impl_Bus.calls _ _ l0_3 t191 _ ?side1 ?side2 A2.out).mono ?_
 (case side1 => exact cu ((Kd.C_below HR0_3.out HB.out)))
 (case side2 => exact HC0_3.out)
 rintro e w6 ⟨v192, rfl, ho0, hb⟩
 refine ⟨_, rfl, ?_⟩
 have n0_ := Aside0.mk (Kd.R_lower ho0 (below_size tb))
 have n1_ := Aside0.mk (blk_below (g := gb189) (o := .cells #[.complex .f32 a0_0.re a0_0.im, .complex .f32 a0_1.re a0_1.im, .complex .f32 a0_2.re a0_2.im, .slice A0_3 l0_3.length c0_3] 42 (0, 0)) (bu BK189.out) hb)
 have n2_ := Aside0.mk (blk_below (g := gb190) (o := .cells #[.complex .f32 0 0, .complex .f32 0 0, .complex .f32 0 0, .slice none 0 0] 42 (0, 0)) (bu BK190.out) hb)
 have n3_ := Aside0.mk (below_step tb hb)
 clear BK189
 clear BK190
 clear HB
 have HO193 := n0_
 have BK189 := n1_
 have BK190 := n2_
 have HB := n3_
 clear n0_ n1_ n2_ n3_
 (try clear hb)
 (try clear hb2)
 (try clear hk)
 (try clear hi)
 (try clear ho0)
 obtain ⟨Ao7, co7, eo7⟩ := Kd.R_slice HO193.out
 (first | subst eo7 | (injection eo7 with f1_ f2_ f3_; have f4_ := f1_.symm; have f5_ := f3_.symm; clear f1_ f2_ f3_; subst f4_; subst f5_))
 refine hK.out _ _ ⟨(blk_cell BK189.out 0).trans rfl, (blk_cell BK189.out 1).trans rfl, (blk_cell BK189.out 2).trans rfl, (blk_cell BK189.out 3).trans rfl⟩ (fun hHeld => ?_)
 clear hK K
 refine norm_ (a' := ?_) ?_ ?_
 rotate_left
 ·show Act.put _ (some 7) _ = _
  refine ps_ ?_
  rfl
 refine pure_ (i := 5) (N := some 8) (v := ?_) (a' := ?_) #[true, true, true, true, true, true, false] rfl rfl (by kernel_rfl) (fun _ _ _ h => h) (Or.inl ⟨by rfl, ?_⟩) ?_ ?_
 rotate_left
 ·intro w'
  go_simp
  with_reducible rfl
 rotate_left
 ·refine ps_ ?_
  rfl
 refine one_ (i := 6) (N := none) #[true, true, true, true, true, true, true] rfl rfl (by kernel_rfl) (by decide) (fun K hK => ?_)
 have hs8 : w6.cell? ⟨gb190, 0, none⟩ = some (.complex .f32 0 0) := (blk_cell BK190.out 0).trans rfl
 have hfs8 := blk_frozen BK190.out 0
 have hns8_0 := NB189_190.out
 have hms8_0 := NB190_189.out
 have hs9 : w6.cell? ⟨gb190, 1, none⟩ = some (.complex .f32 0 0) := (blk_cell BK190.out 1).trans rfl
 have hfs9 := blk_frozen BK190.out 1
 have hns9_0 := NB189_190.out
 have hms9_0 := NB190_189.out
 have hs10 : w6.cell? ⟨gb190, 2, none⟩ = some (.complex .f32 0 0) := (blk_cell BK190.out 2).trans rfl
 have hfs10 := blk_frozen BK190.out 2
 have hns10_0 := NB189_190.out
 have hms10_0 := NB190_189.out
 have hs11 : w6.cell? ⟨gb190, 3, none⟩ = some (.slice none 0 0) := (blk_cell BK190.out 3).trans rfl
 have hfs11 := blk_frozen BK190.out 3
 have hns11_0 := NB189_190.out
 have hms11_0 := NB190_189.out
 refine skip_ (w1 := ?_) (by rfl) rfl ?_ ?_
 rotate_left
 ·go_simp
  rfl
 refine hK.out _ _ ⟨((cell_far (p := ⟨gb190, _, none⟩) NB189_190.out _).trans (((cell_far (p := ⟨gb190, _, none⟩) NB189_190.out _).trans (((cell_far (p := ⟨gb190, _, none⟩) NB189_190.out _).trans (((cell_far (p := ⟨gb190, _, none⟩) NB189_190.out _).trans (hHeld.1)))))))), ((cell_far (p := ⟨gb190, _, none⟩) NB189_190.out _).trans (((cell_far (p := ⟨gb190, _, none⟩) NB189_190.out _).trans (((cell_far (p := ⟨gb190, _, none⟩) NB189_190.out _).trans (((cell_far (p := ⟨gb190, _, none⟩) NB189_190.out _).trans (hHeld.2.1)))))))), ((cell_far (p := ⟨gb190, _, none⟩) NB189_190.out _).trans (((cell_far (p := ⟨gb190, _, none⟩) NB189_190.out _).trans (((cell_far (p := ⟨gb190, _, none⟩) NB189_190.out _).trans (((cell_far (p := ⟨gb190, _, none⟩) NB189_190.out _).trans (hHeld.2.2.1)))))))), ((cell_far (p := ⟨gb190, _, none⟩) NB189_190.out _).trans (((cell_far (p := ⟨gb190, _, none⟩) NB189_190.out _).trans (((cell_far (p := ⟨gb190, _, none⟩) NB189_190.out _).trans (((cell_far (p := ⟨gb190, _, none⟩) NB189_190.out _).trans (hHeld.2.2.2))))))))⟩ (fun hHeld => ?_)
 clear hK K
 refine done_ (by kernel_rfl) ?_
 try go_wp2
 refine bodyPost_ret (results_cell_row rfl _ _ gb190 42 #[.complex .f32 a0_0.re a0_0.im, .complex .f32 a0_1.re a0_1.im, .complex .f32 a0_2.re a0_2.im, .slice Ao7 t191.length co7] (0, 0) _ rfl (by refine bu ?_; refine blk_put (cs := #[.complex .f32 a0_0.re a0_0.im, .complex .f32 a0_1.re a0_1.im, .complex .f32 a0_2.re a0_2.im, .slice none 0 0]) ?_ 3 _ rfl; refine bu ?_; refine blk_put (cs := #[.complex .f32 a0_0.re a0_0.im, .complex .f32 a0_1.re a0_1.im, .complex .f32 0 0, .slice none 0 0]) ?_ 2 _ rfl; refine bu ?_; refine blk_put (cs := #[.complex .f32 a0_0.re a0_0.im, .complex .f32 0 0, .complex .f32 0 0, .slice none 0 0]) ?_ 1 _ rfl; refine bu ?_; refine blk_put (cs := #[.complex .f32 0 0, .complex .f32 0 0, .complex .f32 0 0, .slice none 0 0]) ?_ 0 _ rfl; refine bu ?_; exact BK190.out) Try.underlying42 rfl (by kernel_rfl)) rfl ?_
 exact ⟨_, re_, by refine ru ?_; exact Kd.R_mono (Kd.R_far (p := ⟨gb190, 3, none⟩) (Kd.R_far (p := ⟨gb190, 2, none⟩) (Kd.R_far (p := ⟨gb190, 1, none⟩) (Kd.R_far (p := ⟨gb190, 0, none⟩) (Kd.R_types HO193.out BK190.out (by decide)) (fun _ hk => hk.2) (.complex .f32 a0_0.re a0_0.im)) (fun _ hk => hk.2) (.complex .f32 a0_1.re a0_1.im)) (fun _ hk => hk.2) (.complex .f32 a0_2.re a0_2.im)) (fun _ hk => hk.2) (.slice Ao7 t191.length co7)) (fun _ hk => trivial), tb⟩

end Go.Proofs.Ytcgpomicgbmdlaa.PFnBanks
namespace Go.Proofs.Ytcgpomicgbmdlaa.PFnBanks
open Go.RowKit Go.Proofs.YtcgpomicgbmdlaaW.PrintWords Go.Proofs.YtcgpomicgbmdlaaW.PrintLast Go.Proofs.YtcgpomicgbmdlaaW.PrintMore
attribute [local go_sem] max2_int min2_int max_two min_two max_three min_three max_four min_four   -- for this text's walks alone
set_option linter.unusedVariables false
set_option linter.unusedSimpArgs false

/-! ### impl_in: function 88 -/
def impl_in.f (a0 : Int) (a1 : Int) (a2 : Int) : Option (Bool) := if a0 ≥ a1 then (some (decide (a0 ≤ a2))) else (some false)
set_option maxHeartbeats 8000000 in
set_option maxRecDepth 100000 in
theorem impl_in.calls (a0 : Int) (a1 : Int) (a2 : Int) (r : Bool) (w : World) (h : impl_in.f a0 a1 a2 = some r) :
  Calls Try.prog 88 #[.int .i64 a0, .int .i64 a1, .int .i64 a2] w fun e w' => e = .returned (.bool r) ∧ Drawn0 w w' := by
 have H : (if a0 ≥ a1 then (some (decide (a0 ≤ a2))) else (some false)) = some r := h
 clear h
 by_cases c4 : a0 ≥ a1
 ·rw [if_pos c4] at H
  have c4b0 : decide (a1 ≤ a0) = true := decide_eq_true c4
  clear c4
  obtain rfl := Option.some.inj H
  go_enter Try.func88, Try.ntmps88
  go_wp2
  go_ret
  exact ⟨rs_, dr_⟩
 ·rw [if_neg c4] at H
  have c4b0 : decide (a1 ≤ a0) = false := decide_eq_false c4
  clear c4
  obtain rfl := Option.some.inj H
  go_enter Try.func88, Try.ntmps88
  go_wp2
  go_ret
  exact ⟨rs_, dr_⟩

/-! ### impl_kindOk: function 97 -/
def impl_kindOk.f (a0 : Int) : Option (Bool) := (impl_in.f a0 0 2).bind fun t194 => (some t194)
set_option maxHeartbeats 8000000 in
set_option maxRecDepth 100000 in
theorem impl_kindOk.calls (a0 : Int) (r : Bool) (w : World) (h : impl_kindOk.f a0 = some r) :
  Calls Try.prog 97 #[.int .i64 a0] w fun e w' => e = .returned (.bool r) ∧ Drawn0 w w' := by
 have H : ((impl_in.f a0 0 2).bind fun t194 => (some t194)) = some r := h
 clear h
 replace H := Option.bind_eq_some_iff.mp H
 obtain ⟨t194, A20, H⟩ := H
 try dsimp only at H
 have A2 := Aside0.mk A20
 clear A20
 obtain rfl := Option.some.inj H
 go_enter Try.func97, Try.ntmps97
 go_wp2_with (first | ((with_reducible refine gate_callee (f := 88) rfl ?_); refine gx_ (some 4) Try.func88 #[.int .i64 a0, .int .i64 0, .int .i64 2] ?_; (with_reducible refine (impl_in.calls a0 0 2 t194 _ A2.out).mono ?_); rintro e w' ⟨rfl, ⟨nd, rfl⟩⟩; refine ⟨_, rfl, ?_⟩))
 go_ret
 exact ⟨rs_, dr_⟩

end Go.Proofs.Ytcgpomicgbmdlaa.PFnBanks
