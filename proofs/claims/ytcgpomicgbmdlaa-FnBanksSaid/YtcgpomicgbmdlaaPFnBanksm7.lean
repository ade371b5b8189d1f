-- Words and walks of the print, as far as this claim uses them (laid by wip/mkclaim.py of this session). Lean checks it.
import Derived.Test.YtcgpomicgbmdlaaFl
import Derived.Test.YtcgpomicgbmdlaaPFnBanksm0
import Derived.Test.YtcgpomicgbmdlaaPFnBanksm2
import Derived.Test.YtcgpomicgbmdlaaPFnBanksm4
import Derived.Test.YtcgpomicgbmdlaaPFnBanksm6
namespace Go.Proofs.Ytcgpomicgbmdlaa.PFnBanks
open Go.RowKit Go.Proofs.YtcgpomicgbmdlaaW.PrintWords Go.Proofs.YtcgpomicgbmdlaaW.PrintLast Go.Proofs.YtcgpomicgbmdlaaW.PrintMore
attribute [local go_sem] max2_int min2_int max_two min_two max_three min_three max_four min_four   -- for this text's walks alone
set_option linter.unusedVariables false
set_option linter.unusedSimpArgs false

/-! ### impl_Feeder_sweep_f82: function 81 -/
def impl_Feeder_sweep_f82.f (k : Nat) (s0_0 : Cx) (s0_1 : Cx) (s0_2 : Cx) (s0_3 : List (S66)) (l1 : List (S39))  : Option ((List (S39)) × (List (S39)) × Int × Bool × Cx × Cx × Cx) := (impl_Feeder_loads.f k s0_0 s0_1 s0_2 s0_3 l1).bind fun bt427 => ((impl_Feeder_back_f82.f k bt427.2.1 bt427.2.2.1 bt427.2.2.2 s0_3 bt427.1).bind fun bt433 => ((impl_Feeder_forth_f82.f k bt433.2.1 bt433.2.2.1 bt433.2.2.2 s0_3 bt433.1).bind fun bt439 => (some (bt439.1, bt433.1, 1, false, bt439.2.1, bt439.2.2.1, bt439.2.2.2))))
theorem impl_Feeder_sweep_f82.mono : ∀ a0 a1 a2 a3 a4 k, LeO (impl_Feeder_sweep_f82.f k a0 a1 a2 a3 a4) (impl_Feeder_sweep_f82.f (k + 1) a0 a1 a2 a3 a4) := by
 intro a0 a1 a2 a3 a4 k
 unfold impl_Feeder_sweep_f82.f
 repeat' first
   | (with_reducible exact impl_Feeder_back_f82.mono _ _ _ _ _ _)
   | (with_reducible exact impl_Feeder_forth_f82.mono _ _ _ _ _ _)
   | (with_reducible exact impl_Feeder_loads.mono _ _ _ _ _ _)
   | (with_reducible exact LeO.refl _)
   | (with_reducible exact LeO.none _)
   | (with_reducible refine LeO.ite ?_ ?_)
   | (with_reducible refine LeO.bind ?_ (fun _ => ?_))
   | exact impl_Feeder_back_f82.mono _ _ _ _ _ _
   | exact impl_Feeder_forth_f82.mono _ _ _ _ _ _
   | exact impl_Feeder_loads.mono _ _ _ _ _ _
   | exact LeO.none _
   | refine LeO.ite ?_ ?_
   | refine LeO.bind ?_ (fun _ => ?_)
set_option maxHeartbeats 8000000 in
set_option maxRecDepth 100000 in
theorem impl_Feeder_sweep_f82.calls (k : Nat) (g : Nat) (s0_0 : Cx) (s0_1 : Cx) (s0_2 : Cx) (s0_3 : List (S66)) (A1 : Option Addr) (c1 : Nat) (l1 : List (S39))  (r1 : List (S39)) (r2 : List (S39)) (r3 : Int) (r4 : Bool) (r5 : Cx) (r6 : Cx) (r7 : Cx) (w0 w : World) (hI : IsS42 w0 w g s0_0 s0_1 s0_2 s0_3) (hB : Below w0.heap.size w0 w) (hr1 : ∀ W_, KeepBut w W_ g none → Kd.C k39 W_ A1 l1.length l1) (hc1 : l1.length ≤ c1) (h : impl_Feeder_sweep_f82.f k s0_0 s0_1 s0_2 s0_3 l1 = some (r1, r2, r3, r4, r5, r6, r7)) :
  Calls Try.prog 81 #[.pointer (some ⟨g, 0, none⟩), .slice A1 l1.length c1, .func (.func 82) #[] #[]] w fun e w' => ∃ v0_ v1_ : Value, e = .returned (.agg #[v0_, v1_, .int .i64 r3, .bool r4]) ∧ Kd.R k39 39 w' w.heap.size (fun k_ => some k_ ≠ (v1_ : Value).ownBlock) v0_ r1 ∧ Kd.R k39 39 w' w.heap.size (fun k_ => some k_ ≠ (v0_ : Value).ownBlock) v1_ r2 ∧ IsS42 w0 w' g r5 r6 r7 s0_3 ∧ Below w0.heap.size w0 w' ∧ KeepBut w w' g none := by
 have hu51 := Try.underlying51
 have HR1 := Aside0.mk hr1
 have HC1 := Aside0.mk hc1
 clear hr1 hc1
 have HI0 := Aside0.mk hI
 have HK := Aside0.mk (KeepBut.refl w g none)
 have HL := Aside0.mk hB.size
 clear hI
 have HW0 := Aside0.mk hB.size
 have HB := Aside0.mk hB
 clear hB
 have H : ((impl_Feeder_loads.f k s0_0 s0_1 s0_2 s0_3 l1).bind fun bt427 => ((impl_Feeder_back_f82.f k bt427.2.1 bt427.2.2.1 bt427.2.2.2 s0_3 bt427.1).bind fun bt433 => ((impl_Feeder_forth_f82.f k bt433.2.1 bt433.2.2.1 bt433.2.2.2 s0_3 bt433.1).bind fun bt439 => (some (bt439.1, bt433.1, 1, false, bt439.2.1, bt439.2.2.1, bt439.2.2.2))))) = some (r1, r2, r3, r4, r5, r6, r7) := h
 clear h
 replace H := Option.bind_eq_some_iff.mp H
 obtain ⟨⟨t427, t430, t431, t432⟩, A40, H⟩ := H
 try dsimp only at H
 have A4 := Aside0.mk A40
 clear A40
 replace H := Option.bind_eq_some_iff.mp H
 obtain ⟨⟨t433, t436, t437, t438⟩, A50, H⟩ := H
 try dsimp only at H
 have A5 := Aside0.mk A50
 clear A50
 replace H := Option.bind_eq_some_iff.mp H
 obtain ⟨⟨t439, t442, t443, t444⟩, A60, H⟩ := H
 try dsimp only at H
 have A6 := Aside0.mk A60
 clear A60
 simp only [Option.some.injEq, Prod.mk.injEq] at H
 obtain ⟨rfl, rfl, rfl, rfl, rfl, rfl, rfl⟩ := H
 go_enter Try.func81, Try.ntmps81
 go_wp2_with (first | ((with_reducible refine gate_dst (N := 6) rfl ?_); refine box_event ?hg (N := 6) ?hd (cs := #[.slice none 0 0, .slice none 0 0, .int .i64 0, .bool false]) (t := 51) ?hr ?_; (case hd => rfl); (case hg => rfl); (case hr => first | (go_simp; done) | (go_simp; rfl)); intro gb426 hg w7 hbox hb; have n0_ := Aside0.mk (IsS42.below (by have hi_ := HI0.out; exact IsS42.up) hb); have n1_ := Aside0.mk (KeepBut.trans (by repeat (first | (with_reducible first | exact HK.out | apply KeepBut.set_ | apply keep_drewN | apply keep_drew | apply keep_alloc) | exact HK.out)) (KeepBut.of_below hb g none) (.inl rfl)); have n2_ := Aside0.mk (below_step (by have ge_ := IsS42.ge HI0.out; exact tb) hb); have n3_ := Aside0.mk (hbox); have n4_ := Aside0.mk ((by rw [hg]; exact (keep_size (w := w) (g := g) (row := none) (by repeat (first | (with_reducible first | exact HK.out | apply KeepBut.set_ | apply keep_drewN | apply keep_drew | apply keep_alloc) | exact HK.out))) : w.heap.size ≤ gb426)); have n5_ := Aside0.mk ((Nat.le_trans HW0.out (by rw [hg]; exact (keep_size (w := w) (g := g) (row := none) (by repeat (first | (with_reducible first | exact HK.out | apply KeepBut.set_ | apply keep_drewN | apply keep_drew | apply keep_alloc) | exact HK.out))) : w.heap.size ≤ gb426) : w0.heap.size ≤ gb426)); have n6_ := Aside0.mk ((by rw [hg]; exact Nat.ne_of_lt (IsS42.lt (show IsS42 w0 _ g s0_0 s0_1 s0_2 s0_3 from by have hi_ := HI0.out; exact IsS42.up)) : g ≠ gb426)); have n7_ := Aside0.mk ((by rw [hg]; exact Nat.ne_of_gt (IsS42.lt (show IsS42 w0 _ g s0_0 s0_1 s0_2 s0_3 from by have hi_ := HI0.out; exact IsS42.up)) : gb426 ≠ g)); clear HI0; clear HK; clear HB; have HI0 := n0_; have HK := n1_; have HB := n2_; have BK426 := n3_; have GW426 := n4_; have GE426 := n5_; have NB0_426 := n6_; have NB426_0 := n7_; clear n0_ n1_ n2_ n3_ n4_ n5_ n6_ n7_; clear hb hbox hg) | ((with_reducible refine gate_callee (f := 116) rfl ?_); refine gx_ (some 11) Try.func116 #[.pointer (some ⟨g, 0, none⟩), .slice A1 l1.length c1] ?_; (with_reducible refine (impl_Feeder_loads.calls k g s0_0 s0_1 s0_2 s0_3 _ _ l1 t427 t430 t431 t432 w0 _ ?side1 ?side2 ?side3 ?side4 A4.out).mono ?_); (case side1 => have hi_ := HI0.out; exact IsS42.up); (case side2 => have ge_ := IsS42.ge HI0.out; exact tb); (case side3 => exact Kd.C_foot_step HR1.out (by repeat (first | (with_reducible first | exact HK.out | apply KeepBut.set_ | apply keep_drewN | apply keep_drew | apply keep_alloc | refine keep_far ?_ GW426.out _) | exact HK.out))); (case side4 => exact HC1.out); rintro e w8 ⟨v428, rfl, ho0, hi, hb, hk⟩; refine ⟨_, rfl, ?_⟩; have n0_ := Aside0.mk (KeepBut.blk hk (g' := gb426) (o := .cells #[.slice none 0 0, .slice none 0 0, .int .i64 0, .bool false] 51 (0, 0)) (bu BK426.out) NB426_0.out (by simp)); have n1_ := Aside0.mk (Kd.R_lower ho0 (keep_size (w := w) (g := g) (row := none) (by repeat (first | (with_reducible first | exact HK.out | apply KeepBut.set_ | apply keep_drewN | apply keep_drew | apply keep_alloc | refine keep_far ?_ GW426.out _) | exact HK.out)))); have n2_ := Aside0.mk (KeepBut.trans (by repeat (first | (with_reducible first | exact HK.out | apply KeepBut.set_ | apply keep_drewN | apply keep_drew | apply keep_alloc | refine keep_far ?_ GW426.out _) | exact HK.out)) hk (.inl rfl)); have n3_ := Aside0.mk (hb); have n4_ := Aside0.mk (hi); clear BK426; clear HK; clear HB; clear HI0; have BK426 := n0_; have HO429 := n1_; have HK := n2_; have HB := n3_; have HI0 := n4_; clear n0_ n1_ n2_ n3_ n4_; (try clear hb); (try clear hb2); (try clear hk); (try clear hi); (try clear ho0); obtain ⟨Ao9, co9, eo9⟩ := Kd.R_slice HO429.out; subst eo9) | ((with_reducible refine gate_callee (f := 131) rfl ?_); refine gx_ (some 13) Try.func131 #[.pointer (some ⟨g, 0, none⟩), .slice Ao9 t427.length co9, .func (.func 82) #[] #[]] ?_; (with_reducible refine (impl_Feeder_back_f82.calls k g t430 t431 t432 s0_3 _ _ t427  t433 t436 t437 t438 w0 _ ?side1 ?side2 ?side3 ?side4 A5.out).mono ?_); (case side1 => have hi_ := HI0.out; exact IsS42.up); (case side2 => have ge_ := IsS42.ge HI0.out; exact tb); (case side3 => exact Kd.C_foot_own (IsS42.apart (show IsS42 w0 _ g t430 t431 t432 s0_3 from by have hi_ := HI0.out; exact IsS42.up) (ru HO429.out) (by decide)) (fun _ h_ => h_.2)); (case side4 => exact (Kd.R_reads' HO429.out).2.1); rintro e w10 ⟨v434, rfl, ho0, hi, hb, hk⟩; refine ⟨_, rfl, ?_⟩; have n0_ := Aside0.mk (KeepBut.blk hk (g' := gb426) (o := .cells #[.slice none 0 0, .slice none 0 0, .int .i64 0, .bool false] 51 (0, 0)) (bu BK426.out) NB426_0.out (by simp)); have n1_ := Aside0.mk (Kd.R_mono (Kd.R_told (Kd.R_oldK (IsS42.apart (show IsS42 w0 _ g t430 t431 t432 s0_3 from by have hi_ := HI0.out; exact IsS42.up) (ru HO429.out) (by decide)) hk) (Kd.R_base ho0)) (fun _ h_ => h_.1)); have n2_ := Aside0.mk (Kd.R_lower (Kd.R_new' ho0 (Kd.R_lt (ru HO429.out))) (keep_size (w := w) (g := g) (row := none) (by repeat (first | (with_reducible first | exact HK.out | apply KeepBut.set_ | apply keep_drewN | apply keep_drew | apply keep_alloc | refine keep_far ?_ GW426.out _) | exact HK.out)))); have n3_ := Aside0.mk (KeepBut.trans (by repeat (first | (with_reducible first | exact HK.out | apply KeepBut.set_ | apply keep_drewN | apply keep_drew | apply keep_alloc | refine keep_far ?_ GW426.out _) | exact HK.out)) hk (.inl rfl)); have n4_ := Aside0.mk (hb); have n5_ := Aside0.mk (hi); clear BK426; clear HO429; clear HK; clear HB; clear HI0; have BK426 := n0_; have HO429 := n1_; have HO435 := n2_; have HK := n3_; have HB := n4_; have HI0 := n5_; clear n0_ n1_ n2_ n3_ n4_ n5_; (try clear hb); (try clear hb2); (try clear hk); (try clear hi); (try clear ho0); obtain ⟨Ao11, co11, eo11⟩ := Kd.R_slice HO435.out; subst eo11) | ((with_reducible refine gate_callee (f := 132) rfl ?_); refine gx_ (some 17) Try.func132 #[.pointer (some ⟨g, 0, none⟩), .slice Ao11 t433.length co11, .func (.func 82) #[] #[]] ?_; (with_reducible refine (impl_Feeder_forth_f82.calls k g t436 t437 t438 s0_3 _ _ t433  t439 t442 t443 t444 w0 _ ?side1 ?side2 ?side3 ?side4 A6.out).mono ?_); (case side1 => have hi_ := HI0.out; exact IsS42.up); (case side2 => have ge_ := IsS42.ge HI0.out; exact tb); (case side3 => exact Kd.C_foot_own (IsS42.apart (show IsS42 w0 _ g t436 t437 t438 s0_3 from by have hi_ := HI0.out; exact IsS42.up) (ru HO435.out) (by decide)) (fun _ h_ => h_.2)); (case side4 => exact (Kd.R_reads' HO435.out).2.1); rintro e w12 ⟨v440, rfl, ho0, hi, hb, hk⟩; refine ⟨_, rfl, ?_⟩; have n0_ := Aside0.mk (KeepBut.blk hk (g' := gb426) (o := .cells #[.slice none 0 0, .slice none 0 0, .int .i64 0, .bool false] 51 (0, 0)) (bu BK426.out) NB426_0.out (by simp)); have n1_ := Aside0.mk (Kd.R_mono (Kd.R_told (Kd.R_oldK (IsS42.apart (show IsS42 w0 _ g t436 t437 t438 s0_3 from by have hi_ := HI0.out; exact IsS42.up) (ru HO429.out) (by decide)) hk) (Kd.R_base ho0)) (fun _ h_ => h_.1)); have n2_ := Aside0.mk (Kd.R_mono (Kd.R_told (Kd.R_oldK (IsS42.apart (show IsS42 w0 _ g t436 t437 t438 s0_3 from by have hi_ := HI0.out; exact IsS42.up) (ru HO435.out) (by decide)) hk) (Kd.R_base ho0)) (fun _ h_ => h_.1)); have n3_ := Aside0.mk (Kd.R_lower (Kd.R_new' (Kd.R_new' ho0 (Kd.R_lt (ru HO429.out))) (Kd.R_lt (ru HO435.out))) (keep_size (w := w) (g := g) (row := none) (by repeat (first | (with_reducible first | exact HK.out | apply KeepBut.set_ | apply keep_drewN | apply keep_drew | apply keep_alloc | refine keep_far ?_ GW426.out _) | exact HK.out)))); have n4_ := Aside0.mk (KeepBut.trans (by repeat (first | (with_reducible first | exact HK.out | apply KeepBut.set_ | apply keep_drewN | apply keep_drew | apply keep_alloc | refine keep_far ?_ GW426.out _) | exact HK.out)) hk (.inl rfl)); have n5_ := Aside0.mk (hb); have n6_ := Aside0.mk (hi); clear BK426; clear HO429; clear HO435; clear HK; clear HB; clear HI0; have BK426 := n0_; have HO429 := n1_; have HO435 := n2_; have HO441 := n3_; have HK := n4_; have HB := n5_; have HI0 := n6_; clear n0_ n1_ n2_ n3_ n4_ n5_ n6_; (try clear hb); (try clear hb2); (try clear hk); (try clear hi); (try clear ho0); obtain ⟨Ao13, co13, eo13⟩ := Kd.R_slice HO441.out; subst eo13; have hnb14 := NB426_0.out; have hnc14 := NB0_426.out; have hcz15_0 : w12.cell? ⟨gb426, 0, none⟩ = some (.slice none 0 0) := (blk_cell BK426.out 0).trans rfl; have hcz15_1 : w12.cell? ⟨gb426, 1, none⟩ = some (.slice none 0 0) := (blk_cell BK426.out 1).trans rfl; have hcz15_2 : w12.cell? ⟨gb426, 2, none⟩ = some (.int .i64 0) := (blk_cell BK426.out 2).trans rfl; have hcz15_3 : w12.cell? ⟨gb426, 3, none⟩ = some (.bool false) := (blk_cell BK426.out 3).trans rfl; have hfz15_0 := blk_frozen BK426.out 0; have hfz15_1 := blk_frozen BK426.out 1; have hfz15_2 := blk_frozen BK426.out 2; have hfz15_3 := blk_frozen BK426.out 3))
 refine bodyPost_ret (results_cell_row rfl _ _ gb426 51 #[.slice Ao13 t439.length co13, .slice Ao11 t433.length co11, .int .i64 1, .bool false] (0, 0) _ rfl (by refine bu ?_; refine blk_put (cs := #[.slice Ao13 t439.length co13, .slice Ao11 t433.length co11, .int .i64 1, .bool false]) ?_ 3 _ rfl; refine bu ?_; refine blk_put (cs := #[.slice Ao13 t439.length co13, .slice Ao11 t433.length co11, .int .i64 0, .bool false]) ?_ 2 _ rfl; refine bu ?_; refine blk_put (cs := #[.slice Ao13 t439.length co13, .slice none 0 0, .int .i64 0, .bool false]) ?_ 1 _ rfl; refine bu ?_; refine blk_put (cs := #[.slice none 0 0, .slice none 0 0, .int .i64 0, .bool false]) ?_ 0 _ rfl; refine bu ?_; exact BK426.out) Try.underlying51 rfl (by kernel_rfl)) rfl ?_
 exact ⟨_, _, re_, by refine ru ?_; exact Kd.R_mono (Kd.R_far (p := ⟨gb426, 3, none⟩) (Kd.R_far (p := ⟨gb426, 2, none⟩) (Kd.R_far (p := ⟨gb426, 1, none⟩) (Kd.R_far (p := ⟨gb426, 0, none⟩) (Kd.R_types HO441.out BK426.out (by decide)) (fun _ hk => hk.2) (.slice Ao13 t439.length co13)) (fun _ hk => hk.2) (.slice Ao11 t433.length co11)) (fun _ hk => hk.2) (.int .i64 1)) (fun _ hk => hk.2) (.bool false)) (fun _ hk => hk.1.2), by refine ru ?_; exact Kd.R_mono (Kd.R_far (p := ⟨gb426, 3, none⟩) (Kd.R_far (p := ⟨gb426, 2, none⟩) (Kd.R_far (p := ⟨gb426, 1, none⟩) (Kd.R_far (p := ⟨gb426, 0, none⟩) (Kd.R_types HO435.out BK426.out (by decide)) (fun _ hk => hk.2) (.slice Ao13 t439.length co13)) (fun _ hk => hk.2) (.slice Ao11 t433.length co11)) (fun _ hk => hk.2) (.int .i64 1)) (fun _ hk => hk.2) (.bool false)) (fun _ hk => hk.1.2), by have hi_ := HI0.out; exact IsS42.up, by have ge_ := IsS42.ge HI0.out; exact tb, by repeat (first | (with_reducible first | exact HK.out | apply KeepBut.set_ | apply keep_drewN | apply keep_drew | apply keep_alloc | refine keep_far ?_ GW426.out _) | exact HK.out)⟩

end Go.Proofs.Ytcgpomicgbmdlaa.PFnBanks
namespace Go.Proofs.Ytcgpomicgbmdlaa.PFnBanks
open Go.RowKit Go.Proofs.YtcgpomicgbmdlaaW.PrintWords Go.Proofs.YtcgpomicgbmdlaaW.PrintLast Go.Proofs.YtcgpomicgbmdlaaW.PrintMore
attribute [local go_sem] max2_int min2_int max_two min_two max_three min_three max_four min_four   -- for this text's walks alone
set_option linter.unusedVariables false
set_option linter.unusedSimpArgs false

/-! ### impl_Feeder_sweeps_f82: function 92 -/
def impl_Feeder_sweeps_f82.l0 : Nat → Int → Int → Int → Cx → Cx → Cx → List (S66) → List (S39) → List (S39) → Int → Bool → Option ((List (S39)) × (List (S39)) × Int × Bool × Cx × Cx × Cx)
 | 0, _, _, _, _, _, _, _, _, _, _, _ => none
 | k + 1, x2, x19, x20, x1000, x1001, x1002, x1003, x453000, x453001, x453002, x453003 => if x20 < x19 then ((impl_Feeder_sweep_f82.f k x1000 x1001 x1002 x1003 x453000).bind fun bt453 => (impl_Feeder_sweeps_f82.l0 k x2 x19 (wrap64 (x20 + 1)) bt453.2.2.2.2.1 bt453.2.2.2.2.2.1 bt453.2.2.2.2.2.2 x1003 bt453.1 bt453.2.1 bt453.2.2.1 bt453.2.2.2.1)) else (some (x453000, x453001, x2, x453003, x1000, x1001, x1002))
def impl_Feeder_sweeps_f82.f (k : Nat) (s0_0 : Cx) (s0_1 : Cx) (s0_2 : Cx) (s0_3 : List (S66)) (l1 : List (S39)) (a2 : Int)  : Option ((List (S39)) × (List (S39)) × Int × Bool × Cx × Cx × Cx) := (slices_Clone_impl_Phases.f l1).bind fun t446 => (if 0 ≤ (s0_3.length : Int) then (if ((s0_3.length : Int) : Int).toNat ≤ 11728124029610 then (impl_Feeder_sweeps_f82.l0 k a2 a2 0 s0_0 s0_1 s0_2 s0_3 t446 (List.replicate ((s0_3.length : Int) : Int).toNat z39) 0 false) else (none)) else (none))
theorem impl_Feeder_sweeps_f82.mono_l : ∀ k, (∀ y0 y1 y2 y3 y4 y5 y6 y7 y8 y9 y10, LeO (impl_Feeder_sweeps_f82.l0 k y0 y1 y2 y3 y4 y5 y6 y7 y8 y9 y10) (impl_Feeder_sweeps_f82.l0 (k + 1) y0 y1 y2 y3 y4 y5 y6 y7 y8 y9 y10))
 | 0 => fun _ _ _ _ _ _ _ _ _ _ _ r h => by simp [impl_Feeder_sweeps_f82.l0] at h
 | k + 1 => by
  have ih0 := impl_Feeder_sweeps_f82.mono_l k
  ·intro y0 y1 y2 y3 y4 y5 y6 y7 y8 y9 y10
   unfold impl_Feeder_sweeps_f82.l0
   repeat' first
   | (with_reducible exact ih0 _ _ _ _ _ _ _ _ _ _ _)
   | (with_reducible exact impl_Feeder_sweep_f82.mono _ _ _ _ _ _)
   | (with_reducible exact LeO.refl _)
   | (with_reducible exact LeO.none _)
   | (with_reducible refine LeO.ite ?_ ?_)
   | (with_reducible refine LeO.bind ?_ (fun _ => ?_))
   | exact ih0 _ _ _ _ _ _ _ _ _ _ _
   | exact impl_Feeder_sweep_f82.mono _ _ _ _ _ _
   | exact LeO.none _
   | refine LeO.ite ?_ ?_
   | refine LeO.bind ?_ (fun _ => ?_)
theorem impl_Feeder_sweeps_f82.mono : ∀ a0 a1 a2 a3 a4 a5 k, LeO (impl_Feeder_sweeps_f82.f k a0 a1 a2 a3 a4 a5) (impl_Feeder_sweeps_f82.f (k + 1) a0 a1 a2 a3 a4 a5) := by
 intro a0 a1 a2 a3 a4 a5 k
 have ih0 := impl_Feeder_sweeps_f82.mono_l k
 unfold impl_Feeder_sweeps_f82.f
 repeat' first
   | (with_reducible exact ih0 _ _ _ _ _ _ _ _ _ _ _)
   | (with_reducible exact impl_Feeder_sweep_f82.mono _ _ _ _ _ _)
   | (with_reducible exact LeO.refl _)
   | (with_reducible exact LeO.none _)
   | (with_reducible refine LeO.ite ?_ ?_)
   | (with_reducible refine LeO.bind ?_ (fun _ => ?_))
   | exact ih0 _ _ _ _ _ _ _ _ _ _ _
   | exact impl_Feeder_sweep_f82.mono _ _ _ _ _ _
   | exact LeO.none _
   | refine LeO.ite ?_ ?_
   | refine LeO.bind ?_ (fun _ => ?_)
def impl_Feeder_sweeps_f82.T1 : Bool × List (List Nat × List Nat) := (true, [([], []), ([0], [0]), ([], []), ([2], [2]), ([3], [3]), ([4], [4]), ([5], [5]), ([6, 6], [6]), ([1, 7], [1, 7]), ([], []), ([9, 8, 1, 0, 1, 2, 3, 4, 5, 6, 7, 8, 9], [8, 9])])
def impl_Feeder_sweeps_f82.B1 : List Nat := [0, 1, 0, 4, 12, 28, 60, 124, 255, 0, 1023]
theorem impl_Feeder_sweeps_f82.tab1 : rtab .any (opsOf Try.f92 1) = impl_Feeder_sweeps_f82.T1 := by kernel_rfl
theorem impl_Feeder_sweeps_f82.bits1 : waitsOk impl_Feeder_sweeps_f82.T1.2 impl_Feeder_sweeps_f82.B1 = true := by kernel_rfl
set_option maxHeartbeats 8000000 in
set_option maxRecDepth 100000 in
theorem impl_Feeder_sweeps_f82.calls (k : Nat) (g : Nat) (s0_0 : Cx) (s0_1 : Cx) (s0_2 : Cx) (s0_3 : List (S66)) (A1 : Option Addr) (c1 : Nat) (l1 : List (S39)) (a2 : Int)  (r1 : List (S39)) (r2 : List (S39)) (r3 : Int) (r4 : Bool) (r5 : Cx) (r6 : Cx) (r7 : Cx) (w0 w : World) (hI : IsS42 w0 w g s0_0 s0_1 s0_2 s0_3) (hB : Below w0.heap.size w0 w) (hr1 : ∀ W_, KeepBut w W_ g none → Kd.C k39 W_ A1 l1.length l1) (hc1 : l1.length ≤ c1) (h : impl_Feeder_sweeps_f82.f k s0_0 s0_1 s0_2 s0_3 l1 a2 = some (r1, r2, r3, r4, r5, r6, r7)) :
  Calls Try.prog 92 #[.pointer (some ⟨g, 0, none⟩), .slice A1 l1.length c1, .int .i64 a2, .func (.func 82) #[] #[]] w fun e w' => ∃ v0_ v1_ : Value, e = .returned (.agg #[v0_, v1_, .int .i64 r3, .bool r4]) ∧ Kd.R k39 39 w' w.heap.size (fun k_ => some k_ ≠ (v1_ : Value).ownBlock) v0_ r1 ∧ Kd.R k39 39 w' w.heap.size (fun k_ => some k_ ≠ (v0_ : Value).ownBlock) v1_ r2 ∧ IsS42 w0 w' g r5 r6 r7 s0_3 ∧ Below w0.heap.size w0 w' ∧ KeepBut w w' g none := by
 have hu51 := Try.underlying51
 have HR1 := Aside0.mk hr1
 have HC1 := Aside0.mk hc1
 clear hr1 hc1
 have HI0 := Aside0.mk hI
 have HK := Aside0.mk (KeepBut.refl w g none)
 have HL := Aside0.mk hB.size
 clear hI
 have HW0 := Aside0.mk hB.size
 have HB := Aside0.mk hB
 clear hB
 have H : ((slices_Clone_impl_Phases.f l1).bind fun t446 => (if 0 ≤ (s0_3.length : Int) then (if ((s0_3.length : Int) : Int).toNat ≤ 11728124029610 then (impl_Feeder_sweeps_f82.l0 k a2 a2 0 s0_0 s0_1 s0_2 s0_3 t446 (List.replicate ((s0_3.length : Int) : Int).toNat z39) 0 false) else (none)) else (none))) = some (r1, r2, r3, r4, r5, r6, r7) := h
 clear h
 replace H := Option.bind_eq_some_iff.mp H
 obtain ⟨t446, A50, H⟩ := H
 try dsimp only at H
 have A5 := Aside0.mk A50
 clear A50
 by_cases c6 : 0 ≤ (s0_3.length : Int)
 ·rw [if_pos c6] at H
  have c6b0 := eq_true c6
  have c6b1 : decide (0 ≤ (s0_3.length : Int)) = true := decide_eq_true c6
  clear c6
  by_cases c7 : ((s0_3.length : Int) : Int).toNat ≤ 11728124029610
  ·rw [if_pos c7] at H
   have c7b0 := eq_true c7
   have c7b1 : decide (((s0_3.length : Int) : Int).toNat ≤ 11728124029610) = true := decide_eq_true c7
   clear c7
   obtain ⟨y449, hy449⟩ : ∃ y_ : List (S39), y_ = (List.replicate ((s0_3.length : Int) : Int).toNat z39) := ⟨_, rfl⟩
   replace H : (impl_Feeder_sweeps_f82.l0 k a2 a2 0 s0_0 s0_1 s0_2 s0_3 t446 y449 0 false) = some (r1, r2, r3, r4, r5, r6, r7) := by first | (rw [hy449]; with_reducible exact H) | (have H2_ := (Option.bind_some _ _).symm.trans H; rw [hy449]; with_reducible exact H2_) | (have H2_ := (Option.bind_some _ _).symm.trans H; with_reducible exact H2_) | with_reducible exact H | (rw [hy449]; exact H) | exact H
   have Ny449 := Aside0.mk hy449
   clear hy449
   have H' := Aside0.mk H
   clear H
   go_enter Try.func92, Try.ntmps92
   try go_wp2_with (first | ((with_reducible refine gate_dst (N := 8) rfl ?_); refine box_event ?hg (N := 8) ?hd (cs := #[.slice none 0 0, .slice none 0 0, .int .i64 0, .bool false]) (t := 51) ?hr ?_; (case hd => rfl); (case hg => rfl); (case hr => first | (go_simp; done) | (go_simp; rfl)); intro gb445 hg w8 hbox hb; have n0_ := Aside0.mk (IsS42.below (by have hi_ := HI0.out; exact IsS42.up) hb); have n1_ := Aside0.mk (KeepBut.trans (by repeat (first | (with_reducible first | exact HK.out | apply KeepBut.set_ | apply keep_drewN | apply keep_drew | apply keep_alloc) | exact HK.out)) (KeepBut.of_below hb g none) (.inl rfl)); have n2_ := Aside0.mk (below_step (by have ge_ := IsS42.ge HI0.out; exact tb) hb); have n3_ := Aside0.mk (hbox); have n4_ := Aside0.mk ((by rw [hg]; exact (keep_size (w := w) (g := g) (row := none) (by repeat (first | (with_reducible first | exact HK.out | apply KeepBut.set_ | apply keep_drewN | apply keep_drew | apply keep_alloc) | exact HK.out))) : w.heap.size ≤ gb445)); have n5_ := Aside0.mk ((Nat.le_trans HW0.out (by rw [hg]; exact (keep_size (w := w) (g := g) (row := none) (by repeat (first | (with_reducible first | exact HK.out | apply KeepBut.set_ | apply keep_drewN | apply keep_drew | apply keep_alloc) | exact HK.out))) : w.heap.size ≤ gb445) : w0.heap.size ≤ gb445)); have n6_ := Aside0.mk ((by rw [hg]; exact Nat.ne_of_lt (IsS42.lt (show IsS42 w0 _ g s0_0 s0_1 s0_2 s0_3 from by have hi_ := HI0.out; exact IsS42.up)) : g ≠ gb445)); have n7_ := Aside0.mk ((by rw [hg]; exact Nat.ne_of_gt (IsS42.lt (show IsS42 w0 _ g s0_0 s0_1 s0_2 s0_3 from by have hi_ := HI0.out; exact IsS42.up)) : gb445 ≠ g)); clear HI0; clear HK; clear HB; have HI0 := n0_; have HK := n1_; have HB := n2_; have BK445 := n3_; have GW445 := n4_; have GE445 := n5_; have NB0_445 := n6_; have NB445_0 := n7_; clear n0_ n1_ n2_ n3_ n4_ n5_ n6_ n7_; clear hb hbox hg))
   have n0_ := Aside0.mk (blk_drew BK445.out)
   have n1_ := Aside0.mk (IsS42.drew HI0.out)
   have n2_ := Aside0.mk (keep_drew HK.out)
   have n3_ := Aside0.mk (below_drew1 HB.out)
   clear BK445
   clear HI0
   clear HK
   clear HB
   have BK445 := n0_
   have HI0 := n1_
   have HK := n2_
   have HB := n3_
   clear n0_ n1_ n2_ n3_
   obtain ⟨Az23_, cz23_, Hz23_⟩ := IsS42.cellx_3 HI0.out
   refine start_ (n := 11) (S := fun w' => w'.cell? ⟨g, 0, none⟩ = some (.complex .f32 s0_0.re s0_0.im) ∧ w'.cell? ⟨g, 1, none⟩ = some (.complex .f32 s0_1.re s0_1.im) ∧ w'.cell? ⟨g, 2, none⟩ = some (.complex .f32 s0_2.re s0_2.im) ∧ w'.cell? ⟨g, 3, none⟩ = some (.slice Az23_ s0_3.length cz23_)) (ds := []) #[false, false, false, false, false, false, false, false, false, false, false] (by kernel_rfl) rfl rfl ⟨(IsS42.cell_0 HI0.out), (IsS42.cell_1 HI0.out), (IsS42.cell_2 HI0.out), Hz23_⟩ (fun hHeld => ?_); refine with_tabW impl_Feeder_sweeps_f82.tab1 impl_Feeder_sweeps_f82.bits1 (fun HT_ HW_ => ?_)
   generalize w8.drew = w9 at BK445 HI0 HK HB hHeld ⊢
   refine pure_ (i := 0) (N := some 10) (v := ?_) (a' := ?_) #[true, false, false, false, false, false, false, false, false, false, false] rfl rfl (any_of HT_.out (by kernel_rfl)) (fun _ _ _ h => h) (Or.inl ⟨by rfl, ?_⟩) ?_ ?_
   rotate_left
   ·intro w'
    go_simp
    with_reducible rfl
   rotate_left
   ·refine ps_ ?_
    rfl
   refine pure_ (i := 2) (N := some 12) (v := ?_) (a' := ?_) #[true, false, true, false, false, false, false, false, false, false, false] rfl rfl (any_of HT_.out (by kernel_rfl)) (fun _ _ _ h => h) (Or.inl ⟨by rfl, ?_⟩) ?_ ?_
   rotate_left
   ·intro w'
    go_simp
    with_reducible rfl
   rotate_left
   ·refine ps_ ?_
    rfl
   refine pure_ (i := 3) (N := some 13) (v := ?_) (a' := ?_) #[true, false, true, true, false, false, false, false, false, false, false] rfl rfl (any_of HT_.out (by kernel_rfl)) (fun _ _ _ h => h) (Or.inl ⟨by rfl, ?_⟩) ?_ ?_
   rotate_left
   ·intro w'
    go_simp
    with_reducible rfl
   rotate_left
   ·refine ps_ ?_
    rfl
   refine pure_ (i := 4) (N := some 14) (v := ?_) (a' := ?_) #[true, false, true, true, true, false, false, false, false, false, false] rfl rfl (any_of HT_.out (by kernel_rfl)) (fun _ _ _ h => h) (Or.inl ⟨by rfl, ?_⟩) ?_ ?_
   rotate_left
   ·intro w'
    go_simp
    with_reducible rfl
   rotate_left
   ·refine ps_ ?_
    rfl
   refine take_ (i := 5) (N := some 15) (v := ?_) (a' := ?_) #[true, false, true, true, true, true, false, false, false, false, false] rfl rfl (take_ofW HT_.out HW_.out (by kernel_rfl)) (fun _ _ _ h => h) (Or.inl ⟨by rfl, ?_⟩) hHeld ?_ ?_
   rotate_left
   ·rintro w' ⟨s0, s1, s2, s3⟩
    go_simp
    with_reducible rfl
   rotate_left
   ·refine ps_ ?_
    rfl
   refine pure_ (i := 6) (N := some 16) (v := ?_) (a' := ?_) #[true, false, true, true, true, true, true, false, false, false, false] rfl rfl (any_of HT_.out (by kernel_rfl)) (fun _ _ _ h => h) (Or.inl ⟨by rfl, ?_⟩) ?_ ?_
   rotate_left
   ·intro w'
    go_simp
    with_reducible rfl
   rotate_left
   ·refine ps_ ?_
    rfl
   refine join_ (σ := Value × Value × Nat) 1 #[true, true, true, true, true, true, true, true, true, true, false] (fun s_ => [(11, s_.1), (17, s_.2.1), (9, .pointer (some ⟨s_.2.2, 0, none⟩)), (18, .agg #[s_.1, s_.2.1, .int .i64 0, .bool false])]) (fun s_ w' => (w'.cell? ⟨g, 0, none⟩ = some (.complex .f32 s0_0.re s0_0.im) ∧ w'.cell? ⟨g, 1, none⟩ = some (.complex .f32 s0_1.re s0_1.im) ∧ w'.cell? ⟨g, 2, none⟩ = some (.complex .f32 s0_2.re s0_2.im) ∧ w'.cell? ⟨g, 3, none⟩ = some (.slice Az23_ s0_3.length cz23_)) ∧ (Kd.R k39 39 w' w.heap.size (fun k_ => some k_ ≠ (s_.2.1 : Value).ownBlock) s_.1 t446) ∧ (Kd.R k39 39 w' w.heap.size (fun k_ => some k_ ≠ (s_.1 : Value).ownBlock) s_.2.1 y449) ∧ (w'.heap[gb445]? = some (.cells #[.slice none 0 0, .slice none 0 0, .int .i64 0, .bool false] 51 (0, 0))) ∧ (w'.heap[s_.2.2]? = some (.cells #[.slice none 0 0, .slice none 0 0, .int .i64 0, .bool false] 51 (0, 0))) ∧ (w.heap.size ≤ s_.2.2) ∧ (w0.heap.size ≤ s_.2.2) ∧ (g ≠ s_.2.2) ∧ (s_.2.2 ≠ g) ∧ (gb445 ≠ s_.2.2) ∧ (s_.2.2 ≠ gb445) ∧ (IsS42 w0 w' g s0_0 s0_1 s0_2 s0_3) ∧ (KeepBut w w' g none) ∧ (Below w0.heap.size w0 w')) ?_ ?_
   rotate_left
   ·intro hJ1_7_9
    refine join_ (σ := Value × Value) 2 #[true, true, true, true, true, true, true, true, true, false, false] (fun s_ => [(11, s_.1), (17, s_.2), (18, .agg #[s_.1, s_.2, .int .i64 0, .bool false])]) (fun s_ w' => (w'.cell? ⟨g, 0, none⟩ = some (.complex .f32 s0_0.re s0_0.im) ∧ w'.cell? ⟨g, 1, none⟩ = some (.complex .f32 s0_1.re s0_1.im) ∧ w'.cell? ⟨g, 2, none⟩ = some (.complex .f32 s0_2.re s0_2.im) ∧ w'.cell? ⟨g, 3, none⟩ = some (.slice Az23_ s0_3.length cz23_)) ∧ (Kd.R k39 39 w' w.heap.size (fun k_ => some k_ ≠ (s_.2 : Value).ownBlock) s_.1 t446) ∧ (Kd.R k39 39 w' w.heap.size (fun k_ => some k_ ≠ (s_.1 : Value).ownBlock) s_.2 y449) ∧ (w'.heap[gb445]? = some (.cells #[.slice none 0 0, .slice none 0 0, .int .i64 0, .bool false] 51 (0, 0))) ∧ (IsS42 w0 w' g s0_0 s0_1 s0_2 s0_3) ∧ (KeepBut w w' g none) ∧ (Below w0.heap.size w0 w')) ?_ ?_
    rotate_left
    ·intro hJ1_7
     refine join_ (σ := Value × Nat) 3 #[true, true, true, true, true, true, true, false, false, true, false] (fun s_ => [(11, s_.1), (9, .pointer (some ⟨s_.2, 0, none⟩))]) (fun s_ w' => (w'.cell? ⟨g, 0, none⟩ = some (.complex .f32 s0_0.re s0_0.im) ∧ w'.cell? ⟨g, 1, none⟩ = some (.complex .f32 s0_1.re s0_1.im) ∧ w'.cell? ⟨g, 2, none⟩ = some (.complex .f32 s0_2.re s0_2.im) ∧ w'.cell? ⟨g, 3, none⟩ = some (.slice Az23_ s0_3.length cz23_)) ∧ (Kd.R k39 39 w' w.heap.size (fun _ => True) s_.1 t446) ∧ (w'.heap[gb445]? = some (.cells #[.slice none 0 0, .slice none 0 0, .int .i64 0, .bool false] 51 (0, 0))) ∧ (w'.heap[s_.2]? = some (.cells #[.slice none 0 0, .slice none 0 0, .int .i64 0, .bool false] 51 (0, 0))) ∧ (w.heap.size ≤ s_.2) ∧ (w0.heap.size ≤ s_.2) ∧ (g ≠ s_.2) ∧ (s_.2 ≠ g) ∧ (gb445 ≠ s_.2) ∧ (s_.2 ≠ gb445) ∧ (IsS42 w0 w' g s0_0 s0_1 s0_2 s0_3) ∧ (KeepBut w w' g none) ∧ (Below w0.heap.size w0 w')) ?_ ?_
     rotate_left
     ·intro hJ1_9
      refine join_ (σ := Value × Nat) 3 #[true, false, true, true, true, true, true, true, false, true, false] (fun s_ => [(17, s_.1), (9, .pointer (some ⟨s_.2, 0, none⟩))]) (fun s_ w' => (w'.cell? ⟨g, 0, none⟩ = some (.complex .f32 s0_0.re s0_0.im) ∧ w'.cell? ⟨g, 1, none⟩ = some (.complex .f32 s0_1.re s0_1.im) ∧ w'.cell? ⟨g, 2, none⟩ = some (.complex .f32 s0_2.re s0_2.im) ∧ w'.cell? ⟨g, 3, none⟩ = some (.slice Az23_ s0_3.length cz23_)) ∧ (Kd.R k39 39 w' w.heap.size (fun _ => True) s_.1 y449) ∧ (w'.heap[gb445]? = some (.cells #[.slice none 0 0, .slice none 0 0, .int .i64 0, .bool false] 51 (0, 0))) ∧ (w'.heap[s_.2]? = some (.cells #[.slice none 0 0, .slice none 0 0, .int .i64 0, .bool false] 51 (0, 0))) ∧ (w.heap.size ≤ s_.2) ∧ (w0.heap.size ≤ s_.2) ∧ (g ≠ s_.2) ∧ (s_.2 ≠ g) ∧ (gb445 ≠ s_.2) ∧ (s_.2 ≠ gb445) ∧ (IsS42 w0 w' g s0_0 s0_1 s0_2 s0_3) ∧ (KeepBut w w' g none) ∧ (Below w0.heap.size w0 w')) ?_ ?_
      rotate_left
      ·intro hJ7_9
       refine join_ (σ := Value) 4 #[true, true, true, true, true, true, true, false, false, false, false] (fun s_ => [(11, s_)]) (fun s_ w' => (w'.cell? ⟨g, 0, none⟩ = some (.complex .f32 s0_0.re s0_0.im) ∧ w'.cell? ⟨g, 1, none⟩ = some (.complex .f32 s0_1.re s0_1.im) ∧ w'.cell? ⟨g, 2, none⟩ = some (.complex .f32 s0_2.re s0_2.im) ∧ w'.cell? ⟨g, 3, none⟩ = some (.slice Az23_ s0_3.length cz23_)) ∧ (Kd.R k39 39 w' w.heap.size (fun _ => True) s_ t446) ∧ (w'.heap[gb445]? = some (.cells #[.slice none 0 0, .slice none 0 0, .int .i64 0, .bool false] 51 (0, 0))) ∧ (IsS42 w0 w' g s0_0 s0_1 s0_2 s0_3) ∧ (KeepBut w w' g none) ∧ (Below w0.heap.size w0 w')) ?_ ?_
       rotate_left
       ·intro hJ1
        refine join_ (σ := Value) 4 #[true, false, true, true, true, true, true, true, false, false, false] (fun s_ => [(17, s_)]) (fun s_ w' => (w'.cell? ⟨g, 0, none⟩ = some (.complex .f32 s0_0.re s0_0.im) ∧ w'.cell? ⟨g, 1, none⟩ = some (.complex .f32 s0_1.re s0_1.im) ∧ w'.cell? ⟨g, 2, none⟩ = some (.complex .f32 s0_2.re s0_2.im) ∧ w'.cell? ⟨g, 3, none⟩ = some (.slice Az23_ s0_3.length cz23_)) ∧ (Kd.R k39 39 w' w.heap.size (fun _ => True) s_ y449) ∧ (w'.heap[gb445]? = some (.cells #[.slice none 0 0, .slice none 0 0, .int .i64 0, .bool false] 51 (0, 0))) ∧ (IsS42 w0 w' g s0_0 s0_1 s0_2 s0_3) ∧ (KeepBut w w' g none) ∧ (Below w0.heap.size w0 w')) ?_ ?_
        rotate_left
        ·intro hJ7
         refine join_ (σ := Nat) 4 #[true, false, true, true, true, true, true, false, false, true, false] (fun s_ => [(9, .pointer (some ⟨s_, 0, none⟩))]) (fun s_ w' => (w'.cell? ⟨g, 0, none⟩ = some (.complex .f32 s0_0.re s0_0.im) ∧ w'.cell? ⟨g, 1, none⟩ = some (.complex .f32 s0_1.re s0_1.im) ∧ w'.cell? ⟨g, 2, none⟩ = some (.complex .f32 s0_2.re s0_2.im) ∧ w'.cell? ⟨g, 3, none⟩ = some (.slice Az23_ s0_3.length cz23_)) ∧ (w'.heap[gb445]? = some (.cells #[.slice none 0 0, .slice none 0 0, .int .i64 0, .bool false] 51 (0, 0))) ∧ (w'.heap[s_]? = some (.cells #[.slice none 0 0, .slice none 0 0, .int .i64 0, .bool false] 51 (0, 0))) ∧ (w.heap.size ≤ s_) ∧ (w0.heap.size ≤ s_) ∧ (g ≠ s_) ∧ (s_ ≠ g) ∧ (gb445 ≠ s_) ∧ (s_ ≠ gb445) ∧ (IsS42 w0 w' g s0_0 s0_1 s0_2 s0_3) ∧ (KeepBut w w' g none) ∧ (Below w0.heap.size w0 w')) ?_ ?_
         rotate_left
         ·intro hJ9
          refine three_ (i := 1) (j := 7) (k := 9) (Ni := some 11) (Nj := some 17) (Nk := some 9) #[true, true, true, true, true, true, true, false, false, false, false] #[true, false, true, true, true, true, true, true, false, false, false] #[true, false, true, true, true, true, true, false, false, true, false] rfl rfl rfl rfl rfl rfl (three_of HT_.out (by kernel_rfl)) (by decide) (by decide) (by decide) (fun K hK => ?_) (fun K hK => ?_) (fun K hK => ?_)
          ·skip
           refine goes_ Try.func140 (by kernel_rfl) rfl #[.slice A1 l1.length c1] (by rfl) rfl rfl mp_ ?_
           with_reducible refine (slices_Clone_impl_Phases.calls _ _ l1 t446 _ ?side1 ?side2 A5.out).mono ?_
           (case side1 => exact Kd.C_foot_now HR1.out (by repeat (first | (with_reducible first | exact HK.out | apply KeepBut.set_ | apply keep_drewN | apply keep_drew | apply keep_alloc | refine keep_far ?_ GW445.out _) | exact HK.out)))
           (case side2 => exact HC1.out)
           rintro e w10 ⟨v447, rfl, ho0, hb⟩
           have HZ3_ := pw_cell_below hb (hHeld.2.2.2)
           refine ⟨_, rfl, ?_⟩
           have n0_ := Aside0.mk (Kd.R_lower ho0 (keep_size (w := w) (g := g) (row := none) (by repeat (first | (with_reducible first | exact HK.out | apply KeepBut.set_ | apply keep_drewN | apply keep_drew | apply keep_alloc | refine keep_far ?_ GW445.out _) | exact HK.out))))
           have n1_ := Aside0.mk (IsS42.below (by have hi_ := HI0.out; exact IsS42.up) hb)
           have n2_ := Aside0.mk (blk_below (g := gb445) (o := .cells #[.slice none 0 0, .slice none 0 0, .int .i64 0, .bool false] 51 (0, 0)) (bu BK445.out) hb)
           have n3_ := Aside0.mk (KeepBut.trans (by repeat (first | (with_reducible first | exact HK.out | apply KeepBut.set_ | apply keep_drewN | apply keep_drew | apply keep_alloc | refine keep_far ?_ GW445.out _) | exact HK.out)) (KeepBut.of_below hb g none) (.inl rfl))
           have n4_ := Aside0.mk (below_step (by have ge_ := IsS42.ge HI0.out; exact tb) hb)
           clear HI0
           clear BK445
           clear HK
           clear HB
           have HO448 := n0_
           have HI0 := n1_
           have BK445 := n2_
           have HK := n3_
           have HB := n4_
           clear n0_ n1_ n2_ n3_ n4_
           (try clear hb)
           (try clear hb2)
           (try clear hk)
           (try clear hi)
           (try clear ho0)
           refine hK.out _ _ ⟨(IsS42.cell_0 HI0.out), (IsS42.cell_1 HI0.out), (IsS42.cell_2 HI0.out), HZ3_⟩ (fun hHeld => ?_)
           clear hK K
           refine norm_ (a' := ?_) ?_ ?_
           rotate_left
           ·show Act.put _ (some 11) _ = _
            refine ps_ ?_
            rfl
           exact norm_ (by first | (simp only [putAll, Act.put, List.setIfInBounds_toArray, List.set_cons_zero, List.set_cons_succ]; done) | (simp only [putAll, Act.put, List.setIfInBounds_toArray, List.set_cons_zero, List.set_cons_succ]; rfl)) (hJ1 (v447) _ ⟨hHeld, (ru HO448.out), (bu BK445.out), (by have hi_ := HI0.out; exact IsS42.up), (by repeat (first | (with_reducible first | exact HK.out | apply KeepBut.set_ | apply keep_drewN | apply keep_drew | apply keep_alloc | refine keep_far ?_ GW445.out _) | exact HK.out)), (by have ge_ := IsS42.ge HI0.out; exact tb)⟩)
          ·skip
           refine Kd.R_make_step k39 _ 39 (by rfl) (N := 17) rfl 44 _ _ rfl (s0_3.length : Int) rfl rfl Try.underlying44 (.agg #[(.complex .f32 0 0), (.complex .f32 0 0), (.complex .f32 0 0)]) 24 info39 rfl (by decide) (by omega) z39 (ok := fun _ => True) (okp := fun _ => True) (k39_mkM _ _ _ z39 ) (fun _ hk => hk) trivial (of_decide_eq_true (by first | (with_reducible assumption) | assumption)) (Nat.le_trans (Nat.mul_le_mul_right _ (of_decide_eq_true (by first | (with_reducible assumption) | assumption) : (s0_3.length : Int).toNat ≤ 11728124029610)) (by omega)) (Below.refl _ _) (Nat.le_refl _) ?_
           intro v450 w10 ho11 hb hg_ hnew_
           have HZ3_ := pw_cell_below hb (hHeld.2.2.2)
           clear hg_ hnew_
           (first | rw [← Ny449.out] at ho11 | (simp only [Int.reduceToNat] at ho11; rw [← Ny449.out] at ho11))
           have n0_ := Aside0.mk (Kd.R_lower ho11 (keep_size (w := w) (g := g) (row := none) (by repeat (first | (with_reducible first | exact HK.out | apply KeepBut.set_ | apply keep_drewN | apply keep_drew | apply keep_alloc | refine keep_far ?_ GW445.out _) | exact HK.out))))
           have n1_ := Aside0.mk (IsS42.below (by have hi_ := HI0.out; exact IsS42.up) hb)
           have n2_ := Aside0.mk (blk_below (g := gb445) (o := .cells #[.slice none 0 0, .slice none 0 0, .int .i64 0, .bool false] 51 (0, 0)) (bu BK445.out) hb)
           have n3_ := Aside0.mk (KeepBut.trans (by repeat (first | (with_reducible first | exact HK.out | apply KeepBut.set_ | apply keep_drewN | apply keep_drew | apply keep_alloc | refine keep_far ?_ GW445.out _) | exact HK.out)) (KeepBut.of_below hb g none) (.inl rfl))
           have n4_ := Aside0.mk (below_step (by have ge_ := IsS42.ge HI0.out; exact tb) hb)
           clear HI0
           clear BK445
           clear HK
           clear HB
           have HO451 := n0_
           have HI0 := n1_
           have BK445 := n2_
           have HK := n3_
           have HB := n4_
           clear n0_ n1_ n2_ n3_ n4_
           clear hb ho11
           refine hK.out _ _ ⟨(IsS42.cell_0 HI0.out), (IsS42.cell_1 HI0.out), (IsS42.cell_2 HI0.out), HZ3_⟩ (fun hHeld => ?_)
           clear hK K
           refine norm_ (a' := ?_) ?_ ?_
           rotate_left
           ·show Act.put _ (some 17) _ = _
            refine ps_ ?_
            rfl
           exact norm_ (by first | (simp only [putAll, Act.put, List.setIfInBounds_toArray, List.set_cons_zero, List.set_cons_succ]; done) | (simp only [putAll, Act.put, List.setIfInBounds_toArray, List.set_cons_zero, List.set_cons_succ]; rfl)) (hJ7 (v450) _ ⟨hHeld, (ru HO451.out), (bu BK445.out), (by have hi_ := HI0.out; exact IsS42.up), (by repeat (first | (with_reducible first | exact HK.out | apply KeepBut.set_ | apply keep_drewN | apply keep_drew | apply keep_alloc | refine keep_far ?_ GW445.out _) | exact HK.out)), (by have ge_ := IsS42.ge HI0.out; exact tb)⟩)
          ·skip
           refine box_step ?hg (N := 9) ?hd (cs := #[.slice none 0 0, .slice none 0 0, .int .i64 0, .bool false]) (t := 51) ?hr ?_; (case hd => rfl); (case hg => rfl); (case hr => first | (go_simp; done) | (go_simp; rfl))
           intro gb452 hg w10 hbox hb
           have HZ3_ := pw_cell_below hb (hHeld.2.2.2)
           have n0_ := Aside0.mk (IsS42.below (by have hi_ := HI0.out; exact IsS42.up) hb)
           have n1_ := Aside0.mk (blk_below (g := gb445) (o := .cells #[.slice none 0 0, .slice none 0 0, .int .i64 0, .bool false] 51 (0, 0)) (bu BK445.out) hb)
           have n2_ := Aside0.mk (KeepBut.trans (by repeat (first | (with_reducible first | exact HK.out | apply KeepBut.set_ | apply keep_drewN | apply keep_drew | apply keep_alloc | refine keep_far ?_ GW445.out _) | exact HK.out)) (KeepBut.of_below hb g none) (.inl rfl))
           have n3_ := Aside0.mk (below_step (by have ge_ := IsS42.ge HI0.out; exact tb) hb)
           have n4_ := Aside0.mk (hbox)
           have n5_ := Aside0.mk ((by rw [hg]; exact (keep_size (w := w) (g := g) (row := none) (by repeat (first | (with_reducible first | exact HK.out | apply KeepBut.set_ | apply keep_drewN | apply keep_drew | apply keep_alloc | refine keep_far ?_ GW445.out _) | exact HK.out))) : w.heap.size ≤ gb452))
           have n6_ := Aside0.mk ((Nat.le_trans HW0.out (by rw [hg]; exact (keep_size (w := w) (g := g) (row := none) (by repeat (first | (with_reducible first | exact HK.out | apply KeepBut.set_ | apply keep_drewN | apply keep_drew | apply keep_alloc | refine keep_far ?_ GW445.out _) | exact HK.out))) : w.heap.size ≤ gb452) : w0.heap.size ≤ gb452))
           have n7_ := Aside0.mk ((by rw [hg]; exact Nat.ne_of_lt (blk_lt (g := gb445) (o := .cells #[.slice none 0 0, .slice none 0 0, .int .i64 0, .bool false] 51 (0, 0)) (bu BK445.out)) : gb445 ≠ gb452))
           have n8_ := Aside0.mk ((by rw [hg]; exact Nat.ne_of_gt (blk_lt (g := gb445) (o := .cells #[.slice none 0 0, .slice none 0 0, .int .i64 0, .bool false] 51 (0, 0)) (bu BK445.out)) : gb452 ≠ gb445))
           have n9_ := Aside0.mk ((by rw [hg]; exact Nat.ne_of_lt (IsS42.lt (show IsS42 w0 _ g s0_0 s0_1 s0_2 s0_3 from by have hi_ := HI0.out; exact IsS42.up)) : g ≠ gb452))
           have n10_ := Aside0.mk ((by rw [hg]; exact Nat.ne_of_gt (IsS42.lt (show IsS42 w0 _ g s0_0 s0_1 s0_2 s0_3 from by have hi_ := HI0.out; exact IsS42.up)) : gb452 ≠ g))
           clear HI0
           clear BK445
           clear HK
           clear HB
           have HI0 := n0_
           have BK445 := n1_
           have HK := n2_
           have HB := n3_
           have BK452 := n4_
           have GW452 := n5_
           have GE452 := n6_
           have NB445_452 := n7_
           have NB452_445 := n8_
           have NB0_452 := n9_
           have NB452_0 := n10_
           clear n0_ n1_ n2_ n3_ n4_ n5_ n6_ n7_ n8_ n9_ n10_
           clear hb hbox hg
           refine hK.out _ _ ⟨(IsS42.cell_0 HI0.out), (IsS42.cell_1 HI0.out), (IsS42.cell_2 HI0.out), HZ3_⟩ (fun hHeld => ?_)
           clear hK K
           refine norm_ (a' := ?_) ?_ ?_
           rotate_left
           ·show Act.put _ (some 9) _ = _
            refine ps_ ?_
            rfl
           exact norm_ (by first | (simp only [putAll, Act.put, List.setIfInBounds_toArray, List.set_cons_zero, List.set_cons_succ]; done) | (simp only [putAll, Act.put, List.setIfInBounds_toArray, List.set_cons_zero, List.set_cons_succ]; rfl)) (hJ9 (gb452) _ ⟨hHeld, (bu BK445.out), (bu BK452.out), GW452.out, GE452.out, NB0_452.out, NB452_0.out, NB445_452.out, NB452_445.out, (by have hi_ := HI0.out; exact IsS42.up), (by repeat (first | (with_reducible first | exact HK.out | apply KeepBut.set_ | apply keep_drewN | apply keep_drew | apply keep_alloc | refine keep_far ?_ GW445.out _ | refine keep_far ?_ GW452.out _) | exact HK.out)), (by have ge_ := IsS42.ge HI0.out; exact tb)⟩)
         ·skip
          rintro gb452 w11 ⟨hS_, h0_, h1_, h2_, h3_, h4_, h5_, h6_, h7_, h8_, h9_, h10_⟩
          have n0_ : Aside0 (w11.heap[gb445]? = some (.cells #[.slice none 0 0, .slice none 0 0, .int .i64 0, .bool false] 51 (0, 0))) := ⟨h0_⟩
          have n1_ : Aside0 (w11.heap[gb452]? = some (.cells #[.slice none 0 0, .slice none 0 0, .int .i64 0, .bool false] 51 (0, 0))) := ⟨h1_⟩
          have n2_ : Aside0 (w.heap.size ≤ gb452) := ⟨h2_⟩
          have n3_ : Aside0 (w0.heap.size ≤ gb452) := ⟨h3_⟩
          have n4_ : Aside0 (g ≠ gb452) := ⟨h4_⟩
          have n5_ : Aside0 (gb452 ≠ g) := ⟨h5_⟩
          have n6_ : Aside0 (gb445 ≠ gb452) := ⟨h6_⟩
          have n7_ : Aside0 (gb452 ≠ gb445) := ⟨h7_⟩
          have n8_ : Aside0 (IsS42 w0 w11 g s0_0 s0_1 s0_2 s0_3) := ⟨h8_⟩
          have n9_ : Aside0 (KeepBut w w11 g none) := ⟨h9_⟩
          have n10_ : Aside0 (Below w0.heap.size w0 w11) := ⟨h10_⟩
          clear BK445
          clear HI0
          clear HK
          clear HB
          clear h0_ h1_ h2_ h3_ h4_ h5_ h6_ h7_ h8_ h9_ h10_
          have BK445 := n0_
          have BK452 := n1_
          have GW452 := n2_
          have GE452 := n3_
          have NB0_452 := n4_
          have NB452_0 := n5_
          have NB445_452 := n6_
          have NB452_445 := n7_
          have HI0 := n8_
          have HK := n9_
          have HB := n10_
          clear n0_ n1_ n2_ n3_ n4_ n5_ n6_ n7_ n8_ n9_ n10_
          have hHeld : w11.cell? ⟨g, 0, none⟩ = some (.complex .f32 s0_0.re s0_0.im) ∧ w11.cell? ⟨g, 1, none⟩ = some (.complex .f32 s0_1.re s0_1.im) ∧ w11.cell? ⟨g, 2, none⟩ = some (.complex .f32 s0_2.re s0_2.im) ∧ w11.cell? ⟨g, 3, none⟩ = some (.slice Az23_ s0_3.length cz23_) := hS_
          refine norm_ (a' := ?_) ?_ ?_
          rotate_left
          ·simp only [putAll, Act.put, List.setIfInBounds_toArray, List.set_cons_zero, List.set_cons_succ]
           rfl
          refine two_ (i := 1) (j := 7) (Ni := some 11) (Nj := some 17) #[true, true, true, true, true, true, true, false, false, true, false] #[true, false, true, true, true, true, true, true, false, true, false] rfl rfl rfl rfl (two_of HT_.out (by kernel_rfl)) (by decide) (by decide) (fun K hK => ?_) (fun K hK => ?_)
          ·skip
           refine goes_ Try.func140 (by kernel_rfl) rfl #[.slice A1 l1.length c1] (by rfl) rfl rfl mp_ ?_
           with_reducible refine (slices_Clone_impl_Phases.calls _ _ l1 t446 _ ?side1 ?side2 A5.out).mono ?_
           (case side1 => exact Kd.C_foot_now HR1.out (by repeat (first | (with_reducible first | exact HK.out | apply KeepBut.set_ | apply keep_drewN | apply keep_drew | apply keep_alloc | refine keep_far ?_ GW445.out _ | refine keep_far ?_ GW452.out _) | exact HK.out)))
           (case side2 => exact HC1.out)
           rintro e w12 ⟨v447, rfl, ho0, hb⟩
           have HZ3_ := pw_cell_below hb (hHeld.2.2.2)
           refine ⟨_, rfl, ?_⟩
           have n0_ := Aside0.mk (Kd.R_lower ho0 (keep_size (w := w) (g := g) (row := none) (by repeat (first | (with_reducible first | exact HK.out | apply KeepBut.set_ | apply keep_drewN | apply keep_drew | apply keep_alloc | refine keep_far ?_ GW445.out _ | refine keep_far ?_ GW452.out _) | exact HK.out))))
           have n1_ := Aside0.mk (IsS42.below (by have hi_ := HI0.out; exact IsS42.up) hb)
           have n2_ := Aside0.mk (blk_below (g := gb445) (o := .cells #[.slice none 0 0, .slice none 0 0, .int .i64 0, .bool false] 51 (0, 0)) (bu BK445.out) hb)
           have n3_ := Aside0.mk (blk_below (g := gb452) (o := .cells #[.slice none 0 0, .slice none 0 0, .int .i64 0, .bool false] 51 (0, 0)) (bu BK452.out) hb)
           have n4_ := Aside0.mk (KeepBut.trans (by repeat (first | (with_reducible first | exact HK.out | apply KeepBut.set_ | apply keep_drewN | apply keep_drew | apply keep_alloc | refine keep_far ?_ GW445.out _ | refine keep_far ?_ GW452.out _) | exact HK.out)) (KeepBut.of_below hb g none) (.inl rfl))
           have n5_ := Aside0.mk (below_step (by have ge_ := IsS42.ge HI0.out; exact tb) hb)
           clear HI0
           clear BK445
           clear BK452
           clear HK
           clear HB
           have HO448 := n0_
           have HI0 := n1_
           have BK445 := n2_
           have BK452 := n3_
           have HK := n4_
           have HB := n5_
           clear n0_ n1_ n2_ n3_ n4_ n5_
           (try clear hb)
           (try clear hb2)
           (try clear hk)
           (try clear hi)
           (try clear ho0)
           refine hK.out _ _ ⟨(IsS42.cell_0 HI0.out), (IsS42.cell_1 HI0.out), (IsS42.cell_2 HI0.out), HZ3_⟩ (fun hHeld => ?_)
           clear hK K
           refine norm_ (a' := ?_) ?_ ?_
           rotate_left
           ·show Act.put _ (some 11) _ = _
            refine ps_ ?_
            rfl
           exact norm_ (by first | (simp only [putAll, Act.put, List.setIfInBounds_toArray, List.set_cons_zero, List.set_cons_succ]; done) | (simp only [putAll, Act.put, List.setIfInBounds_toArray, List.set_cons_zero, List.set_cons_succ]; rfl)) (hJ1_9 (v447, gb452) _ ⟨hHeld, (ru HO448.out), (bu BK445.out), (bu BK452.out), GW452.out, GE452.out, NB0_452.out, NB452_0.out, NB445_452.out, NB452_445.out, (by have hi_ := HI0.out; exact IsS42.up), (by repeat (first | (with_reducible first | exact HK.out | apply KeepBut.set_ | apply keep_drewN | apply keep_drew | apply keep_alloc | refine keep_far ?_ GW445.out _ | refine keep_far ?_ GW452.out _) | exact HK.out)), (by have ge_ := IsS42.ge HI0.out; exact tb)⟩)
          ·skip
           refine Kd.R_make_step k39 _ 39 (by rfl) (N := 17) rfl 44 _ _ rfl (s0_3.length : Int) rfl rfl Try.underlying44 (.agg #[(.complex .f32 0 0), (.complex .f32 0 0), (.complex .f32 0 0)]) 24 info39 rfl (by decide) (by omega) z39 (ok := fun _ => True) (okp := fun _ => True) (k39_mkM _ _ _ z39 ) (fun _ hk => hk) trivial (of_decide_eq_true (by first | (with_reducible assumption) | assumption)) (Nat.le_trans (Nat.mul_le_mul_right _ (of_decide_eq_true (by first | (with_reducible assumption) | assumption) : (s0_3.length : Int).toNat ≤ 11728124029610)) (by omega)) (Below.refl _ _) (Nat.le_refl _) ?_
           intro v450 w12 ho13 hb hg_ hnew_
           have HZ3_ := pw_cell_below hb (hHeld.2.2.2)
           clear hg_ hnew_
           (first | rw [← Ny449.out] at ho13 | (simp only [Int.reduceToNat] at ho13; rw [← Ny449.out] at ho13))
           have n0_ := Aside0.mk (Kd.R_lower ho13 (keep_size (w := w) (g := g) (row := none) (by repeat (first | (with_reducible first | exact HK.out | apply KeepBut.set_ | apply keep_drewN | apply keep_drew | apply keep_alloc | refine keep_far ?_ GW445.out _ | refine keep_far ?_ GW452.out _) | exact HK.out))))
           have n1_ := Aside0.mk (IsS42.below (by have hi_ := HI0.out; exact IsS42.up) hb)
           have n2_ := Aside0.mk (blk_below (g := gb445) (o := .cells #[.slice none 0 0, .slice none 0 0, .int .i64 0, .bool false] 51 (0, 0)) (bu BK445.out) hb)
           have n3_ := Aside0.mk (blk_below (g := gb452) (o := .cells #[.slice none 0 0, .slice none 0 0, .int .i64 0, .bool false] 51 (0, 0)) (bu BK452.out) hb)
           have n4_ := Aside0.mk (KeepBut.trans (by repeat (first | (with_reducible first | exact HK.out | apply KeepBut.set_ | apply keep_drewN | apply keep_drew | apply keep_alloc | refine keep_far ?_ GW445.out _ | refine keep_far ?_ GW452.out _) | exact HK.out)) (KeepBut.of_below hb g none) (.inl rfl))
           have n5_ := Aside0.mk (below_step (by have ge_ := IsS42.ge HI0.out; exact tb) hb)
           clear HI0
           clear BK445
           clear BK452
           clear HK
           clear HB
           have HO451 := n0_
           have HI0 := n1_
           have BK445 := n2_
           have BK452 := n3_
           have HK := n4_
           have HB := n5_
           clear n0_ n1_ n2_ n3_ n4_ n5_
           clear hb ho13
           refine hK.out _ _ ⟨(IsS42.cell_0 HI0.out), (IsS42.cell_1 HI0.out), (IsS42.cell_2 HI0.out), HZ3_⟩ (fun hHeld => ?_)
           clear hK K
           refine norm_ (a' := ?_) ?_ ?_
           rotate_left
           ·show Act.put _ (some 17) _ = _
            refine ps_ ?_
            rfl
           exact norm_ (by first | (simp only [putAll, Act.put, List.setIfInBounds_toArray, List.set_cons_zero, List.set_cons_succ]; done) | (simp only [putAll, Act.put, List.setIfInBounds_toArray, List.set_cons_zero, List.set_cons_succ]; rfl)) (hJ7_9 (v450, gb452) _ ⟨hHeld, (ru HO451.out), (bu BK445.out), (bu BK452.out), GW452.out, GE452.out, NB0_452.out, NB452_0.out, NB445_452.out, NB452_445.out, (by have hi_ := HI0.out; exact IsS42.up), (by repeat (first | (with_reducible first | exact HK.out | apply KeepBut.set_ | apply keep_drewN | apply keep_drew | apply keep_alloc | refine keep_far ?_ GW445.out _ | refine keep_far ?_ GW452.out _) | exact HK.out)), (by have ge_ := IsS42.ge HI0.out; exact tb)⟩)
        ·skip
         rintro v450 w12 ⟨hS_, h0_, h1_, h2_, h3_, h4_⟩
         have n0_ : Aside0 (Kd.R k39 39 w12 w.heap.size (fun _ => True) v450 y449) := ⟨h0_⟩
         have n1_ : Aside0 (w12.heap[gb445]? = some (.cells #[.slice none 0 0, .slice none 0 0, .int .i64 0, .bool false] 51 (0, 0))) := ⟨h1_⟩
         have n2_ : Aside0 (IsS42 w0 w12 g s0_0 s0_1 s0_2 s0_3) := ⟨h2_⟩
         have n3_ : Aside0 (KeepBut w w12 g none) := ⟨h3_⟩
         have n4_ : Aside0 (Below w0.heap.size w0 w12) := ⟨h4_⟩
         clear BK445
         clear HI0
         clear HK
         clear HB
         clear h0_ h1_ h2_ h3_ h4_
         have HO451 := n0_
         have BK445 := n1_
         have HI0 := n2_
         have HK := n3_
         have HB := n4_
         clear n0_ n1_ n2_ n3_ n4_
         have hHeld : w12.cell? ⟨g, 0, none⟩ = some (.complex .f32 s0_0.re s0_0.im) ∧ w12.cell? ⟨g, 1, none⟩ = some (.complex .f32 s0_1.re s0_1.im) ∧ w12.cell? ⟨g, 2, none⟩ = some (.complex .f32 s0_2.re s0_2.im) ∧ w12.cell? ⟨g, 3, none⟩ = some (.slice Az23_ s0_3.length cz23_) := hS_
         refine norm_ (a' := ?_) ?_ ?_
         rotate_left
         ·simp only [putAll, Act.put, List.setIfInBounds_toArray, List.set_cons_zero, List.set_cons_succ]
          rfl
         refine two_ (i := 1) (j := 9) (Ni := some 11) (Nj := some 9) #[true, true, true, true, true, true, true, true, false, false, false] #[true, false, true, true, true, true, true, true, false, true, false] rfl rfl rfl rfl (two_of HT_.out (by kernel_rfl)) (by decide) (by decide) (fun K hK => ?_) (fun K hK => ?_)
         ·skip
          refine goes_ Try.func140 (by kernel_rfl) rfl #[.slice A1 l1.length c1] (by rfl) rfl rfl mp_ ?_
          with_reducible refine (slices_Clone_impl_Phases.calls _ _ l1 t446 _ ?side1 ?side2 A5.out).mono ?_
          (case side1 => exact Kd.C_foot_now HR1.out (by repeat (first | (with_reducible first | exact HK.out | apply KeepBut.set_ | apply keep_drewN | apply keep_drew | apply keep_alloc | refine keep_far ?_ GW445.out _) | exact HK.out)))
          (case side2 => exact HC1.out)
          rintro e w13 ⟨v447, rfl, ho0, hb⟩
          have HZ3_ := pw_cell_below hb (hHeld.2.2.2)
          refine ⟨_, rfl, ?_⟩
          have n0_ := Aside0.mk (Kd.R_elder' (ru HO451.out) (Kd.R_base ho0) hb)
          have n1_ := Aside0.mk (Kd.R_lower (Kd.R_new' ho0 (Kd.R_lt (ru HO451.out))) (keep_size (w := w) (g := g) (row := none) (by repeat (first | (with_reducible first | exact HK.out | apply KeepBut.set_ | apply keep_drewN | apply keep_drew | apply keep_alloc | refine keep_far ?_ GW445.out _) | exact HK.out))))
          have n2_ := Aside0.mk (IsS42.below (by have hi_ := HI0.out; exact IsS42.up) hb)
          have n3_ := Aside0.mk (blk_below (g := gb445) (o := .cells #[.slice none 0 0, .slice none 0 0, .int .i64 0, .bool false] 51 (0, 0)) (bu BK445.out) hb)
          have n4_ := Aside0.mk (KeepBut.trans (by repeat (first | (with_reducible first | exact HK.out | apply KeepBut.set_ | apply keep_drewN | apply keep_drew | apply keep_alloc | refine keep_far ?_ GW445.out _) | exact HK.out)) (KeepBut.of_below hb g none) (.inl rfl))
          have n5_ := Aside0.mk (below_step (by have ge_ := IsS42.ge HI0.out; exact tb) hb)
          clear HO451
          clear HI0
          clear BK445
          clear HK
          clear HB
          have HO451 := n0_
          have HO448 := n1_
          have HI0 := n2_
          have BK445 := n3_
          have HK := n4_
          have HB := n5_
          clear n0_ n1_ n2_ n3_ n4_ n5_
          (try clear hb)
          (try clear hb2)
          (try clear hk)
          (try clear hi)
          (try clear ho0)
          obtain ⟨Ao14, co14, eo14⟩ := Kd.R_slice HO451.out
          (first | subst eo14 | (injection eo14 with f1_ f2_ f3_; have f4_ := f1_.symm; have f5_ := f3_.symm; clear f1_ f2_ f3_; subst f4_; subst f5_))
          obtain ⟨Ao15, co15, eo15⟩ := Kd.R_slice HO448.out
          (first | subst eo15 | (injection eo15 with f1_ f2_ f3_; have f4_ := f1_.symm; have f5_ := f3_.symm; clear f1_ f2_ f3_; subst f4_; subst f5_))
          refine hK.out _ _ ⟨(IsS42.cell_0 HI0.out), (IsS42.cell_1 HI0.out), (IsS42.cell_2 HI0.out), HZ3_⟩ (fun hHeld => ?_)
          clear hK K
          refine norm_ (a' := ?_) ?_ ?_
          rotate_left
          ·show Act.put _ (some 11) _ = _
           refine ps_ ?_
           rfl
          refine pure_ (i := 8) (N := some 18) (v := ?_) (a' := ?_) #[true, true, true, true, true, true, true, true, true, false, false] rfl rfl (any_of HT_.out (by kernel_rfl)) (fun _ _ _ h => h) (Or.inl ⟨by rfl, ?_⟩) ?_ ?_
          rotate_left
          ·intro w'
           go_simp
           with_reducible rfl
          rotate_left
          ·refine ps_ ?_
           rfl
          exact norm_ (by first | (simp only [putAll, Act.put, List.setIfInBounds_toArray, List.set_cons_zero, List.set_cons_succ]; done) | (simp only [putAll, Act.put, List.setIfInBounds_toArray, List.set_cons_zero, List.set_cons_succ]; rfl)) (hJ1_7 (.slice Ao15 t446.length co15, .slice Ao14 y449.length co14) _ ⟨hHeld, (by refine ru ?_; exact Kd.R_mono HO448.out (fun _ hk => hk.2)), (by refine ru ?_; exact Kd.R_mono HO451.out (fun _ hk => hk.2)), (bu BK445.out), (by have hi_ := HI0.out; exact IsS42.up), (by repeat (first | (with_reducible first | exact HK.out | apply KeepBut.set_ | apply keep_drewN | apply keep_drew | apply keep_alloc | refine keep_far ?_ GW445.out _) | exact HK.out)), (by have ge_ := IsS42.ge HI0.out; exact tb)⟩)
         ·skip
          refine box_step ?hg (N := 9) ?hd (cs := #[.slice none 0 0, .slice none 0 0, .int .i64 0, .bool false]) (t := 51) ?hr ?_; (case hd => rfl); (case hg => rfl); (case hr => first | (go_simp; done) | (go_simp; rfl))
          intro gb452 hg w13 hbox hb
          have HZ3_ := pw_cell_below hb (hHeld.2.2.2)
          have n0_ := Aside0.mk (Kd.R_below (ru HO451.out) hb)
          have n1_ := Aside0.mk (IsS42.below (by have hi_ := HI0.out; exact IsS42.up) hb)
          have n2_ := Aside0.mk (blk_below (g := gb445) (o := .cells #[.slice none 0 0, .slice none 0 0, .int .i64 0, .bool false] 51 (0, 0)) (bu BK445.out) hb)
          have n3_ := Aside0.mk (KeepBut.trans (by repeat (first | (with_reducible first | exact HK.out | apply KeepBut.set_ | apply keep_drewN | apply keep_drew | apply keep_alloc | refine keep_far ?_ GW445.out _) | exact HK.out)) (KeepBut.of_below hb g none) (.inl rfl))
          have n4_ := Aside0.mk (below_step (by have ge_ := IsS42.ge HI0.out; exact tb) hb)
          have n5_ := Aside0.mk (hbox)
          have n6_ := Aside0.mk ((by rw [hg]; exact (keep_size (w := w) (g := g) (row := none) (by repeat (first | (with_reducible first | exact HK.out | apply KeepBut.set_ | apply keep_drewN | apply keep_drew | apply keep_alloc | refine keep_far ?_ GW445.out _) | exact HK.out))) : w.heap.size ≤ gb452))
          have n7_ := Aside0.mk ((Nat.le_trans HW0.out (by rw [hg]; exact (keep_size (w := w) (g := g) (row := none) (by repeat (first | (with_reducible first | exact HK.out | apply KeepBut.set_ | apply keep_drewN | apply keep_drew | apply keep_alloc | refine keep_far ?_ GW445.out _) | exact HK.out))) : w.heap.size ≤ gb452) : w0.heap.size ≤ gb452))
          have n8_ := Aside0.mk ((by rw [hg]; exact Nat.ne_of_lt (blk_lt (g := gb445) (o := .cells #[.slice none 0 0, .slice none 0 0, .int .i64 0, .bool false] 51 (0, 0)) (bu BK445.out)) : gb445 ≠ gb452))
          have n9_ := Aside0.mk ((by rw [hg]; exact Nat.ne_of_gt (blk_lt (g := gb445) (o := .cells #[.slice none 0 0, .slice none 0 0, .int .i64 0, .bool false] 51 (0, 0)) (bu BK445.out)) : gb452 ≠ gb445))
          have n10_ := Aside0.mk ((by rw [hg]; exact Nat.ne_of_lt (IsS42.lt (show IsS42 w0 _ g s0_0 s0_1 s0_2 s0_3 from by have hi_ := HI0.out; exact IsS42.up)) : g ≠ gb452))
          have n11_ := Aside0.mk ((by rw [hg]; exact Nat.ne_of_gt (IsS42.lt (show IsS42 w0 _ g s0_0 s0_1 s0_2 s0_3 from by have hi_ := HI0.out; exact IsS42.up)) : gb452 ≠ g))
          clear HO451
          clear HI0
          clear BK445
          clear HK
          clear HB
          have HO451 := n0_
          have HI0 := n1_
          have BK445 := n2_
          have HK := n3_
          have HB := n4_
          have BK452 := n5_
          have GW452 := n6_
          have GE452 := n7_
          have NB445_452 := n8_
          have NB452_445 := n9_
          have NB0_452 := n10_
          have NB452_0 := n11_
          clear n0_ n1_ n2_ n3_ n4_ n5_ n6_ n7_ n8_ n9_ n10_ n11_
          clear hb hbox hg
          refine hK.out _ _ ⟨(IsS42.cell_0 HI0.out), (IsS42.cell_1 HI0.out), (IsS42.cell_2 HI0.out), HZ3_⟩ (fun hHeld => ?_)
          clear hK K
          refine norm_ (a' := ?_) ?_ ?_
          rotate_left
          ·show Act.put _ (some 9) _ = _
           refine ps_ ?_
           rfl
          exact norm_ (by first | (simp only [putAll, Act.put, List.setIfInBounds_toArray, List.set_cons_zero, List.set_cons_succ]; done) | (simp only [putAll, Act.put, List.setIfInBounds_toArray, List.set_cons_zero, List.set_cons_succ]; rfl)) (hJ7_9 (v450, gb452) _ ⟨hHeld, (ru HO451.out), (bu BK445.out), (bu BK452.out), GW452.out, GE452.out, NB0_452.out, NB452_0.out, NB445_452.out, NB452_445.out, (by have hi_ := HI0.out; exact IsS42.up), (by repeat (first | (with_reducible first | exact HK.out | apply KeepBut.set_ | apply keep_drewN | apply keep_drew | apply keep_alloc | refine keep_far ?_ GW445.out _ | refine keep_far ?_ GW452.out _) | exact HK.out)), (by have ge_ := IsS42.ge HI0.out; exact tb)⟩)
       ·skip
        rintro v447 w11 ⟨hS_, h0_, h1_, h2_, h3_, h4_⟩
        have n0_ : Aside0 (Kd.R k39 39 w11 w.heap.size (fun _ => True) v447 t446) := ⟨h0_⟩
        have n1_ : Aside0 (w11.heap[gb445]? = some (.cells #[.slice none 0 0, .slice none 0 0, .int .i64 0, .bool false] 51 (0, 0))) := ⟨h1_⟩
        have n2_ : Aside0 (IsS42 w0 w11 g s0_0 s0_1 s0_2 s0_3) := ⟨h2_⟩
        have n3_ : Aside0 (KeepBut w w11 g none) := ⟨h3_⟩
        have n4_ : Aside0 (Below w0.heap.size w0 w11) := ⟨h4_⟩
        clear BK445
        clear HI0
        clear HK
        clear HB
        clear h0_ h1_ h2_ h3_ h4_
        have HO448 := n0_
        have BK445 := n1_
        have HI0 := n2_
        have HK := n3_
        have HB := n4_
        clear n0_ n1_ n2_ n3_ n4_
        have hHeld : w11.cell? ⟨g, 0, none⟩ = some (.complex .f32 s0_0.re s0_0.im) ∧ w11.cell? ⟨g, 1, none⟩ = some (.complex .f32 s0_1.re s0_1.im) ∧ w11.cell? ⟨g, 2, none⟩ = some (.complex .f32 s0_2.re s0_2.im) ∧ w11.cell? ⟨g, 3, none⟩ = some (.slice Az23_ s0_3.length cz23_) := hS_
        refine norm_ (a' := ?_) ?_ ?_
        rotate_left
        ·simp only [putAll, Act.put, List.setIfInBounds_toArray, List.set_cons_zero, List.set_cons_succ]
         rfl
        refine two_ (i := 7) (j := 9) (Ni := some 17) (Nj := some 9) #[true, true, true, true, true, true, true, true, false, false, false] #[true, true, true, true, true, true, true, false, false, true, false] rfl rfl rfl rfl (two_of HT_.out (by kernel_rfl)) (by decide) (by decide) (fun K hK => ?_) (fun K hK => ?_)
        ·skip
         refine Kd.R_make_step k39 _ 39 (by rfl) (N := 17) rfl 44 _ _ rfl (s0_3.length : Int) rfl rfl Try.underlying44 (.agg #[(.complex .f32 0 0), (.complex .f32 0 0), (.complex .f32 0 0)]) 24 info39 rfl (by decide) (by omega) z39 (ok := fun _ => True) (okp := fun _ => True) (k39_mkM _ _ _ z39 ) (fun _ hk => hk) trivial (of_decide_eq_true (by first | (with_reducible assumption) | assumption)) (Nat.le_trans (Nat.mul_le_mul_right _ (of_decide_eq_true (by first | (with_reducible assumption) | assumption) : (s0_3.length : Int).toNat ≤ 11728124029610)) (by omega)) (Below.refl _ _) (Nat.le_refl _) ?_
         intro v450 w12 ho13 hb hg_ hnew_
         have HZ3_ := pw_cell_below hb (hHeld.2.2.2)
         clear hg_ hnew_
         (first | rw [← Ny449.out] at ho13 | (simp only [Int.reduceToNat] at ho13; rw [← Ny449.out] at ho13))
         have n0_ := Aside0.mk (Kd.R_elder' (ru HO448.out) (Kd.R_base ho13) hb)
         have n1_ := Aside0.mk (Kd.R_lower (Kd.R_new' ho13 (Kd.R_lt (ru HO448.out))) (keep_size (w := w) (g := g) (row := none) (by repeat (first | (with_reducible first | exact HK.out | apply KeepBut.set_ | apply keep_drewN | apply keep_drew | apply keep_alloc | refine keep_far ?_ GW445.out _) | exact HK.out))))
         have n2_ := Aside0.mk (IsS42.below (by have hi_ := HI0.out; exact IsS42.up) hb)
         have n3_ := Aside0.mk (blk_below (g := gb445) (o := .cells #[.slice none 0 0, .slice none 0 0, .int .i64 0, .bool false] 51 (0, 0)) (bu BK445.out) hb)
         have n4_ := Aside0.mk (KeepBut.trans (by repeat (first | (with_reducible first | exact HK.out | apply KeepBut.set_ | apply keep_drewN | apply keep_drew | apply keep_alloc | refine keep_far ?_ GW445.out _) | exact HK.out)) (KeepBut.of_below hb g none) (.inl rfl))
         have n5_ := Aside0.mk (below_step (by have ge_ := IsS42.ge HI0.out; exact tb) hb)
         clear HO448
         clear HI0
         clear BK445
         clear HK
         clear HB
         have HO448 := n0_
         have HO451 := n1_
         have HI0 := n2_
         have BK445 := n3_
         have HK := n4_
         have HB := n5_
         clear n0_ n1_ n2_ n3_ n4_ n5_
         clear hb ho13
         obtain ⟨Ao14, co14, eo14⟩ := Kd.R_slice HO451.out
         (first | subst eo14 | (injection eo14 with f1_ f2_ f3_; have f4_ := f1_.symm; have f5_ := f3_.symm; clear f1_ f2_ f3_; subst f4_; subst f5_))
         obtain ⟨Ao15, co15, eo15⟩ := Kd.R_slice HO448.out
         (first | subst eo15 | (injection eo15 with f1_ f2_ f3_; have f4_ := f1_.symm; have f5_ := f3_.symm; clear f1_ f2_ f3_; subst f4_; subst f5_))
         refine hK.out _ _ ⟨(IsS42.cell_0 HI0.out), (IsS42.cell_1 HI0.out), (IsS42.cell_2 HI0.out), HZ3_⟩ (fun hHeld => ?_)
         clear hK K
         refine norm_ (a' := ?_) ?_ ?_
         rotate_left
         ·show Act.put _ (some 17) _ = _
          refine ps_ ?_
          rfl
         refine pure_ (i := 8) (N := some 18) (v := ?_) (a' := ?_) #[true, true, true, true, true, true, true, true, true, false, false] rfl rfl (any_of HT_.out (by kernel_rfl)) (fun _ _ _ h => h) (Or.inl ⟨by rfl, ?_⟩) ?_ ?_
         rotate_left
         ·intro w'
          go_simp
          with_reducible rfl
         rotate_left
         ·refine ps_ ?_
          rfl
         exact norm_ (by first | (simp only [putAll, Act.put, List.setIfInBounds_toArray, List.set_cons_zero, List.set_cons_succ]; done) | (simp only [putAll, Act.put, List.setIfInBounds_toArray, List.set_cons_zero, List.set_cons_succ]; rfl)) (hJ1_7 (.slice Ao15 t446.length co15, .slice Ao14 y449.length co14) _ ⟨hHeld, (by refine ru ?_; exact Kd.R_mono HO448.out (fun _ hk => hk.2)), (by refine ru ?_; exact Kd.R_mono HO451.out (fun _ hk => hk.2)), (bu BK445.out), (by have hi_ := HI0.out; exact IsS42.up), (by repeat (first | (with_reducible first | exact HK.out | apply KeepBut.set_ | apply keep_drewN | apply keep_drew | apply keep_alloc | refine keep_far ?_ GW445.out _) | exact HK.out)), (by have ge_ := IsS42.ge HI0.out; exact tb)⟩)
        ·skip
         refine box_step ?hg (N := 9) ?hd (cs := #[.slice none 0 0, .slice none 0 0, .int .i64 0, .bool false]) (t := 51) ?hr ?_; (case hd => rfl); (case hg => rfl); (case hr => first | (go_simp; done) | (go_simp; rfl))
         intro gb452 hg w12 hbox hb
         have HZ3_ := pw_cell_below hb (hHeld.2.2.2)
         have n0_ := Aside0.mk (Kd.R_below (ru HO448.out) hb)
         have n1_ := Aside0.mk (IsS42.below (by have hi_ := HI0.out; exact IsS42.up) hb)
         have n2_ := Aside0.mk (blk_below (g := gb445) (o := .cells #[.slice none 0 0, .slice none 0 0, .int .i64 0, .bool false] 51 (0, 0)) (bu BK445.out) hb)
         have n3_ := Aside0.mk (KeepBut.trans (by repeat (first | (with_reducible first | exact HK.out | apply KeepBut.set_ | apply keep_drewN | apply keep_drew | apply keep_alloc | refine keep_far ?_ GW445.out _) | exact HK.out)) (KeepBut.of_below hb g none) (.inl rfl))
         have n4_ := Aside0.mk (below_step (by have ge_ := IsS42.ge HI0.out; exact tb) hb)
         have n5_ := Aside0.mk (hbox)
         have n6_ := Aside0.mk ((by rw [hg]; exact (keep_size (w := w) (g := g) (row := none) (by repeat (first | (with_reducible first | exact HK.out | apply KeepBut.set_ | apply keep_drewN | apply keep_drew | apply keep_alloc | refine keep_far ?_ GW445.out _) | exact HK.out))) : w.heap.size ≤ gb452))
         have n7_ := Aside0.mk ((Nat.le_trans HW0.out (by rw [hg]; exact (keep_size (w := w) (g := g) (row := none) (by repeat (first | (with_reducible first | exact HK.out | apply KeepBut.set_ | apply keep_drewN | apply keep_drew | apply keep_alloc | refine keep_far ?_ GW445.out _) | exact HK.out))) : w.heap.size ≤ gb452) : w0.heap.size ≤ gb452))
         have n8_ := Aside0.mk ((by rw [hg]; exact Nat.ne_of_lt (blk_lt (g := gb445) (o := .cells #[.slice none 0 0, .slice none 0 0, .int .i64 0, .bool false] 51 (0, 0)) (bu BK445.out)) : gb445 ≠ gb452))
         have n9_ := Aside0.mk ((by rw [hg]; exact Nat.ne_of_gt (blk_lt (g := gb445) (o := .cells #[.slice none 0 0, .slice none 0 0, .int .i64 0, .bool false] 51 (0, 0)) (bu BK445.out)) : gb452 ≠ gb445))
         have n10_ := Aside0.mk ((by rw [hg]; exact Nat.ne_of_lt (IsS42.lt (show IsS42 w0 _ g s0_0 s0_1 s0_2 s0_3 from by have hi_ := HI0.out; exact IsS42.up)) : g ≠ gb452))
         have n11_ := Aside0.mk ((by rw [hg]; exact Nat.ne_of_gt (IsS42.lt (show IsS42 w0 _ g s0_0 s0_1 s0_2 s0_3 from by have hi_ := HI0.out; exact IsS42.up)) : gb452 ≠ g))
         clear HO448
         clear HI0
         clear BK445
         clear HK
         clear HB
         have HO448 := n0_
         have HI0 := n1_
         have BK445 := n2_
         have HK := n3_
         have HB := n4_
         have BK452 := n5_
         have GW452 := n6_
         have GE452 := n7_
         have NB445_452 := n8_
         have NB452_445 := n9_
         have NB0_452 := n10_
         have NB452_0 := n11_
         clear n0_ n1_ n2_ n3_ n4_ n5_ n6_ n7_ n8_ n9_ n10_ n11_
         clear hb hbox hg
         refine hK.out _ _ ⟨(IsS42.cell_0 HI0.out), (IsS42.cell_1 HI0.out), (IsS42.cell_2 HI0.out), HZ3_⟩ (fun hHeld => ?_)
         clear hK K
         refine norm_ (a' := ?_) ?_ ?_
         rotate_left
         ·show Act.put _ (some 9) _ = _
          refine ps_ ?_
          rfl
         exact norm_ (by first | (simp only [putAll, Act.put, List.setIfInBounds_toArray, List.set_cons_zero, List.set_cons_succ]; done) | (simp only [putAll, Act.put, List.setIfInBounds_toArray, List.set_cons_zero, List.set_cons_succ]; rfl)) (hJ1_9 (v447, gb452) _ ⟨hHeld, (ru HO448.out), (bu BK445.out), (bu BK452.out), GW452.out, GE452.out, NB0_452.out, NB452_0.out, NB445_452.out, NB452_445.out, (by have hi_ := HI0.out; exact IsS42.up), (by repeat (first | (with_reducible first | exact HK.out | apply KeepBut.set_ | apply keep_drewN | apply keep_drew | apply keep_alloc | refine keep_far ?_ GW445.out _ | refine keep_far ?_ GW452.out _) | exact HK.out)), (by have ge_ := IsS42.ge HI0.out; exact tb)⟩)
      ·skip
       rintro ⟨v450, gb452⟩ w13 ⟨hS_, h0_, h1_, h2_, h3_, h4_, h5_, h6_, h7_, h8_, h9_, h10_, h11_⟩
       have n0_ : Aside0 (Kd.R k39 39 w13 w.heap.size (fun _ => True) v450 y449) := ⟨h0_⟩
       have n1_ : Aside0 (w13.heap[gb445]? = some (.cells #[.slice none 0 0, .slice none 0 0, .int .i64 0, .bool false] 51 (0, 0))) := ⟨h1_⟩
       have n2_ : Aside0 (w13.heap[gb452]? = some (.cells #[.slice none 0 0, .slice none 0 0, .int .i64 0, .bool false] 51 (0, 0))) := ⟨h2_⟩
       have n3_ : Aside0 (w.heap.size ≤ gb452) := ⟨h3_⟩
       have n4_ : Aside0 (w0.heap.size ≤ gb452) := ⟨h4_⟩
       have n5_ : Aside0 (g ≠ gb452) := ⟨h5_⟩
       have n6_ : Aside0 (gb452 ≠ g) := ⟨h6_⟩
       have n7_ : Aside0 (gb445 ≠ gb452) := ⟨h7_⟩
       have n8_ : Aside0 (gb452 ≠ gb445) := ⟨h8_⟩
       have n9_ : Aside0 (IsS42 w0 w13 g s0_0 s0_1 s0_2 s0_3) := ⟨h9_⟩
       have n10_ : Aside0 (KeepBut w w13 g none) := ⟨h10_⟩
       have n11_ : Aside0 (Below w0.heap.size w0 w13) := ⟨h11_⟩
       clear BK445
       clear HI0
       clear HK
       clear HB
       clear h0_ h1_ h2_ h3_ h4_ h5_ h6_ h7_ h8_ h9_ h10_ h11_
       have HO451 := n0_
       have BK445 := n1_
       have BK452 := n2_
       have GW452 := n3_
       have GE452 := n4_
       have NB0_452 := n5_
       have NB452_0 := n6_
       have NB445_452 := n7_
       have NB452_445 := n8_
       have HI0 := n9_
       have HK := n10_
       have HB := n11_
       clear n0_ n1_ n2_ n3_ n4_ n5_ n6_ n7_ n8_ n9_ n10_ n11_
       have hHeld : w13.cell? ⟨g, 0, none⟩ = some (.complex .f32 s0_0.re s0_0.im) ∧ w13.cell? ⟨g, 1, none⟩ = some (.complex .f32 s0_1.re s0_1.im) ∧ w13.cell? ⟨g, 2, none⟩ = some (.complex .f32 s0_2.re s0_2.im) ∧ w13.cell? ⟨g, 3, none⟩ = some (.slice Az23_ s0_3.length cz23_) := hS_
       refine norm_ (a' := ?_) ?_ ?_
       rotate_left
       ·simp only [putAll, Act.put, List.setIfInBounds_toArray, List.set_cons_zero, List.set_cons_succ]
        rfl
       refine one_ (i := 1) (N := some 11) #[true, true, true, true, true, true, true, true, false, true, false] rfl rfl (one_of HT_.out (by kernel_rfl)) (by decide) (fun K hK => ?_)
       refine goes_ Try.func140 (by kernel_rfl) rfl #[.slice A1 l1.length c1] (by rfl) rfl rfl mp_ ?_
       with_reducible refine (slices_Clone_impl_Phases.calls _ _ l1 t446 _ ?side1 ?side2 A5.out).mono ?_
       (case side1 => exact Kd.C_foot_now HR1.out (by repeat (first | (with_reducible first | exact HK.out | apply KeepBut.set_ | apply keep_drewN | apply keep_drew | apply keep_alloc | refine keep_far ?_ GW445.out _ | refine keep_far ?_ GW452.out _) | exact HK.out)))
       (case side2 => exact HC1.out)
       rintro e w14 ⟨v447, rfl, ho0, hb⟩
       have HZ3_ := pw_cell_below hb (hHeld.2.2.2)
       refine ⟨_, rfl, ?_⟩
       have n0_ := Aside0.mk (Kd.R_elder' (ru HO451.out) (Kd.R_base ho0) hb)
       have n1_ := Aside0.mk (Kd.R_lower (Kd.R_new' ho0 (Kd.R_lt (ru HO451.out))) (keep_size (w := w) (g := g) (row := none) (by repeat (first | (with_reducible first | exact HK.out | apply KeepBut.set_ | apply keep_drewN | apply keep_drew | apply keep_alloc | refine keep_far ?_ GW445.out _ | refine keep_far ?_ GW452.out _) | exact HK.out))))
       have n2_ := Aside0.mk (IsS42.below (by have hi_ := HI0.out; exact IsS42.up) hb)
       have n3_ := Aside0.mk (blk_below (g := gb445) (o := .cells #[.slice none 0 0, .slice none 0 0, .int .i64 0, .bool false] 51 (0, 0)) (bu BK445.out) hb)
       have n4_ := Aside0.mk (blk_below (g := gb452) (o := .cells #[.slice none 0 0, .slice none 0 0, .int .i64 0, .bool false] 51 (0, 0)) (bu BK452.out) hb)
       have n5_ := Aside0.mk (KeepBut.trans (by repeat (first | (with_reducible first | exact HK.out | apply KeepBut.set_ | apply keep_drewN | apply keep_drew | apply keep_alloc | refine keep_far ?_ GW445.out _ | refine keep_far ?_ GW452.out _) | exact HK.out)) (KeepBut.of_below hb g none) (.inl rfl))
       have n6_ := Aside0.mk (below_step (by have ge_ := IsS42.ge HI0.out; exact tb) hb)
       clear HO451
       clear HI0
       clear BK445
       clear BK452
       clear HK
       clear HB
       have HO451 := n0_
       have HO448 := n1_
       have HI0 := n2_
       have BK445 := n3_
       have BK452 := n4_
       have HK := n5_
       have HB := n6_
       clear n0_ n1_ n2_ n3_ n4_ n5_ n6_
       (try clear hb)
       (try clear hb2)
       (try clear hk)
       (try clear hi)
       (try clear ho0)
       obtain ⟨Ao15, co15, eo15⟩ := Kd.R_slice HO451.out
       (first | subst eo15 | (injection eo15 with f1_ f2_ f3_; have f4_ := f1_.symm; have f5_ := f3_.symm; clear f1_ f2_ f3_; subst f4_; subst f5_))
       obtain ⟨Ao16, co16, eo16⟩ := Kd.R_slice HO448.out
       (first | subst eo16 | (injection eo16 with f1_ f2_ f3_; have f4_ := f1_.symm; have f5_ := f3_.symm; clear f1_ f2_ f3_; subst f4_; subst f5_))
       refine hK.out _ _ ⟨(IsS42.cell_0 HI0.out), (IsS42.cell_1 HI0.out), (IsS42.cell_2 HI0.out), HZ3_⟩ (fun hHeld => ?_)
       clear hK K
       refine norm_ (a' := ?_) ?_ ?_
       rotate_left
       ·show Act.put _ (some 11) _ = _
        refine ps_ ?_
        rfl
       refine pure_ (i := 8) (N := some 18) (v := ?_) (a' := ?_) #[true, true, true, true, true, true, true, true, true, true, false] rfl rfl (any_of HT_.out (by kernel_rfl)) (fun _ _ _ h => h) (Or.inl ⟨by rfl, ?_⟩) ?_ ?_
       rotate_left
       ·intro w'
        go_simp
        with_reducible rfl
       rotate_left
       ·refine ps_ ?_
        rfl
       exact norm_ (by first | (simp only [putAll, Act.put, List.setIfInBounds_toArray, List.set_cons_zero, List.set_cons_succ]; done) | (simp only [putAll, Act.put, List.setIfInBounds_toArray, List.set_cons_zero, List.set_cons_succ]; rfl)) (hJ1_7_9 (.slice Ao16 t446.length co16, .slice Ao15 y449.length co15, gb452) _ ⟨hHeld, (by refine ru ?_; exact Kd.R_mono HO448.out (fun _ hk => hk.2)), (by refine ru ?_; exact Kd.R_mono HO451.out (fun _ hk => hk.2)), (bu BK445.out), (bu BK452.out), GW452.out, GE452.out, NB0_452.out, NB452_0.out, NB445_452.out, NB452_445.out, (by have hi_ := HI0.out; exact IsS42.up), (by repeat (first | (with_reducible first | exact HK.out | apply KeepBut.set_ | apply keep_drewN | apply keep_drew | apply keep_alloc | refine keep_far ?_ GW445.out _ | refine keep_far ?_ GW452.out _) | exact HK.out)), (by have ge_ := IsS42.ge HI0.out; exact tb)⟩)
     ·skip
      rintro ⟨v447, gb452⟩ w12 ⟨hS_, h0_, h1_, h2_, h3_, h4_, h5_, h6_, h7_, h8_, h9_, h10_, h11_⟩
      have n0_ : Aside0 (Kd.R k39 39 w12 w.heap.size (fun _ => True) v447 t446) := ⟨h0_⟩
      have n1_ : Aside0 (w12.heap[gb445]? = some (.cells #[.slice none 0 0, .slice none 0 0, .int .i64 0, .bool false] 51 (0, 0))) := ⟨h1_⟩
      have n2_ : Aside0 (w12.heap[gb452]? = some (.cells #[.slice none 0 0, .slice none 0 0, .int .i64 0, .bool false] 51 (0, 0))) := ⟨h2_⟩
      have n3_ : Aside0 (w.heap.size ≤ gb452) := ⟨h3_⟩
      have n4_ : Aside0 (w0.heap.size ≤ gb452) := ⟨h4_⟩
      have n5_ : Aside0 (g ≠ gb452) := ⟨h5_⟩
      have n6_ : Aside0 (gb452 ≠ g) := ⟨h6_⟩
      have n7_ : Aside0 (gb445 ≠ gb452) := ⟨h7_⟩
      have n8_ : Aside0 (gb452 ≠ gb445) := ⟨h8_⟩
      have n9_ : Aside0 (IsS42 w0 w12 g s0_0 s0_1 s0_2 s0_3) := ⟨h9_⟩
      have n10_ : Aside0 (KeepBut w w12 g none) := ⟨h10_⟩
      have n11_ : Aside0 (Below w0.heap.size w0 w12) := ⟨h11_⟩
      clear BK445
      clear HI0
      clear HK
      clear HB
      clear h0_ h1_ h2_ h3_ h4_ h5_ h6_ h7_ h8_ h9_ h10_ h11_
      have HO448 := n0_
      have BK445 := n1_
      have BK452 := n2_
      have GW452 := n3_
      have GE452 := n4_
      have NB0_452 := n5_
      have NB452_0 := n6_
      have NB445_452 := n7_
      have NB452_445 := n8_
      have HI0 := n9_
      have HK := n10_
      have HB := n11_
      clear n0_ n1_ n2_ n3_ n4_ n5_ n6_ n7_ n8_ n9_ n10_ n11_
      have hHeld : w12.cell? ⟨g, 0, none⟩ = some (.complex .f32 s0_0.re s0_0.im) ∧ w12.cell? ⟨g, 1, none⟩ = some (.complex .f32 s0_1.re s0_1.im) ∧ w12.cell? ⟨g, 2, none⟩ = some (.complex .f32 s0_2.re s0_2.im) ∧ w12.cell? ⟨g, 3, none⟩ = some (.slice Az23_ s0_3.length cz23_) := hS_
      refine norm_ (a' := ?_) ?_ ?_
      rotate_left
      ·simp only [putAll, Act.put, List.setIfInBounds_toArray, List.set_cons_zero, List.set_cons_succ]
       rfl
      refine one_ (i := 7) (N := some 17) #[true, true, true, true, true, true, true, true, false, true, false] rfl rfl (one_of HT_.out (by kernel_rfl)) (by decide) (fun K hK => ?_)
      refine Kd.R_make_step k39 _ 39 (by rfl) (N := 17) rfl 44 _ _ rfl (s0_3.length : Int) rfl rfl Try.underlying44 (.agg #[(.complex .f32 0 0), (.complex .f32 0 0), (.complex .f32 0 0)]) 24 info39 rfl (by decide) (by omega) z39 (ok := fun _ => True) (okp := fun _ => True) (k39_mkM _ _ _ z39 ) (fun _ hk => hk) trivial (of_decide_eq_true (by first | (with_reducible assumption) | assumption)) (Nat.le_trans (Nat.mul_le_mul_right _ (of_decide_eq_true (by first | (with_reducible assumption) | assumption) : (s0_3.length : Int).toNat ≤ 11728124029610)) (by omega)) (Below.refl _ _) (Nat.le_refl _) ?_
      intro v450 w13 ho14 hb hg_ hnew_
      have HZ3_ := pw_cell_below hb (hHeld.2.2.2)
      clear hg_ hnew_
      (first | rw [← Ny449.out] at ho14 | (simp only [Int.reduceToNat] at ho14; rw [← Ny449.out] at ho14))
      have n0_ := Aside0.mk (Kd.R_elder' (ru HO448.out) (Kd.R_base ho14) hb)
      have n1_ := Aside0.mk (Kd.R_lower (Kd.R_new' ho14 (Kd.R_lt (ru HO448.out))) (keep_size (w := w) (g := g) (row := none) (by repeat (first | (with_reducible first | exact HK.out | apply KeepBut.set_ | apply keep_drewN | apply keep_drew | apply keep_alloc | refine keep_far ?_ GW445.out _ | refine keep_far ?_ GW452.out _) | exact HK.out))))
      have n2_ := Aside0.mk (IsS42.below (by have hi_ := HI0.out; exact IsS42.up) hb)
      have n3_ := Aside0.mk (blk_below (g := gb445) (o := .cells #[.slice none 0 0, .slice none 0 0, .int .i64 0, .bool false] 51 (0, 0)) (bu BK445.out) hb)
      have n4_ := Aside0.mk (blk_below (g := gb452) (o := .cells #[.slice none 0 0, .slice none 0 0, .int .i64 0, .bool false] 51 (0, 0)) (bu BK452.out) hb)
      have n5_ := Aside0.mk (KeepBut.trans (by repeat (first | (with_reducible first | exact HK.out | apply KeepBut.set_ | apply keep_drewN | apply keep_drew | apply keep_alloc | refine keep_far ?_ GW445.out _ | refine keep_far ?_ GW452.out _) | exact HK.out)) (KeepBut.of_below hb g none) (.inl rfl))
      have n6_ := Aside0.mk (below_step (by have ge_ := IsS42.ge HI0.out; exact tb) hb)
      clear HO448
      clear HI0
      clear BK445
      clear BK452
      clear HK
      clear HB
      have HO448 := n0_
      have HO451 := n1_
      have HI0 := n2_
      have BK445 := n3_
      have BK452 := n4_
      have HK := n5_
      have HB := n6_
      clear n0_ n1_ n2_ n3_ n4_ n5_ n6_
      clear hb ho14
      obtain ⟨Ao15, co15, eo15⟩ := Kd.R_slice HO451.out
      (first | subst eo15 | (injection eo15 with f1_ f2_ f3_; have f4_ := f1_.symm; have f5_ := f3_.symm; clear f1_ f2_ f3_; subst f4_; subst f5_))
      obtain ⟨Ao16, co16, eo16⟩ := Kd.R_slice HO448.out
      (first | subst eo16 | (injection eo16 with f1_ f2_ f3_; have f4_ := f1_.symm; have f5_ := f3_.symm; clear f1_ f2_ f3_; subst f4_; subst f5_))
      refine hK.out _ _ ⟨(IsS42.cell_0 HI0.out), (IsS42.cell_1 HI0.out), (IsS42.cell_2 HI0.out), HZ3_⟩ (fun hHeld => ?_)
      clear hK K
      refine norm_ (a' := ?_) ?_ ?_
      rotate_left
      ·show Act.put _ (some 17) _ = _
       refine ps_ ?_
       rfl
      refine pure_ (i := 8) (N := some 18) (v := ?_) (a' := ?_) #[true, true, true, true, true, true, true, true, true, true, false] rfl rfl (any_of HT_.out (by kernel_rfl)) (fun _ _ _ h => h) (Or.inl ⟨by rfl, ?_⟩) ?_ ?_
      rotate_left
      ·intro w'
       go_simp
       with_reducible rfl
      rotate_left
      ·refine ps_ ?_
       rfl
      exact norm_ (by first | (simp only [putAll, Act.put, List.setIfInBounds_toArray, List.set_cons_zero, List.set_cons_succ]; done) | (simp only [putAll, Act.put, List.setIfInBounds_toArray, List.set_cons_zero, List.set_cons_succ]; rfl)) (hJ1_7_9 (.slice Ao16 t446.length co16, .slice Ao15 y449.length co15, gb452) _ ⟨hHeld, (by refine ru ?_; exact Kd.R_mono HO448.out (fun _ hk => hk.2)), (by refine ru ?_; exact Kd.R_mono HO451.out (fun _ hk => hk.2)), (bu BK445.out), (bu BK452.out), GW452.out, GE452.out, NB0_452.out, NB452_0.out, NB445_452.out, NB452_445.out, (by have hi_ := HI0.out; exact IsS42.up), (by repeat (first | (with_reducible first | exact HK.out | apply KeepBut.set_ | apply keep_drewN | apply keep_drew | apply keep_alloc | refine keep_far ?_ GW445.out _ | refine keep_far ?_ GW452.out _) | exact HK.out)), (by have ge_ := IsS42.ge HI0.out; exact tb)⟩)
    ·skip
     rintro ⟨v447, v450⟩ w15 ⟨hS_, h0_, h1_, h2_, h3_, h4_, h5_⟩
     have n0_ : Aside0 (Kd.R k39 39 w15 w.heap.size (fun k_ => some k_ ≠ (v450 : Value).ownBlock) v447 t446) := ⟨h0_⟩
     have n1_ : Aside0 (Kd.R k39 39 w15 w.heap.size (fun k_ => some k_ ≠ (v447 : Value).ownBlock) v450 y449) := ⟨h1_⟩
     have n2_ : Aside0 (w15.heap[gb445]? = some (.cells #[.slice none 0 0, .slice none 0 0, .int .i64 0, .bool false] 51 (0, 0))) := ⟨h2_⟩
     have n3_ : Aside0 (IsS42 w0 w15 g s0_0 s0_1 s0_2 s0_3) := ⟨h3_⟩
     have n4_ : Aside0 (KeepBut w w15 g none) := ⟨h4_⟩
     have n5_ : Aside0 (Below w0.heap.size w0 w15) := ⟨h5_⟩
     clear BK445
     clear HI0
     clear HK
     clear HB
     clear h0_ h1_ h2_ h3_ h4_ h5_
     have HO448 := n0_
     have HO451 := n1_
     have BK445 := n2_
     have HI0 := n3_
     have HK := n4_
     have HB := n5_
     clear n0_ n1_ n2_ n3_ n4_ n5_
     have hHeld : w15.cell? ⟨g, 0, none⟩ = some (.complex .f32 s0_0.re s0_0.im) ∧ w15.cell? ⟨g, 1, none⟩ = some (.complex .f32 s0_1.re s0_1.im) ∧ w15.cell? ⟨g, 2, none⟩ = some (.complex .f32 s0_2.re s0_2.im) ∧ w15.cell? ⟨g, 3, none⟩ = some (.slice Az23_ s0_3.length cz23_) := hS_
     obtain ⟨Ao16, co16, eo16⟩ := Kd.R_slice HO451.out
     (first | subst eo16 | (injection eo16 with f1_ f2_ f3_; have f4_ := f1_.symm; have f5_ := f3_.symm; clear f1_ f2_ f3_; subst f4_; subst f5_))
     obtain ⟨Ao17, co17, eo17⟩ := Kd.R_slice HO448.out
     (first | subst eo17 | (injection eo17 with f1_ f2_ f3_; have f4_ := f1_.symm; have f5_ := f3_.symm; clear f1_ f2_ f3_; subst f4_; subst f5_))
     refine norm_ (a' := ?_) ?_ ?_
     rotate_left
     ·simp only [putAll, Act.put, List.setIfInBounds_toArray, List.set_cons_zero, List.set_cons_succ]
      rfl
     refine one_ (i := 9) (N := some 9) #[true, true, true, true, true, true, true, true, true, true, false] rfl rfl (one_of HT_.out (by kernel_rfl)) (by decide) (fun K hK => ?_)
     refine box_step ?hg (N := 9) ?hd (cs := #[.slice none 0 0, .slice none 0 0, .int .i64 0, .bool false]) (t := 51) ?hr ?_; (case hd => rfl); (case hg => rfl); (case hr => first | (go_simp; done) | (go_simp; rfl))
     intro gb452 hg w18 hbox hb
     have HZ3_ := pw_cell_below hb (hHeld.2.2.2)
     have n0_ := Aside0.mk (Kd.R_below (ru HO448.out) hb)
     have n1_ := Aside0.mk (Kd.R_below (ru HO451.out) hb)
     have n2_ := Aside0.mk (IsS42.below (by have hi_ := HI0.out; exact IsS42.up) hb)
     have n3_ := Aside0.mk (blk_below (g := gb445) (o := .cells #[.slice none 0 0, .slice none 0 0, .int .i64 0, .bool false] 51 (0, 0)) (bu BK445.out) hb)
     have n4_ := Aside0.mk (KeepBut.trans (by repeat (first | (with_reducible first | exact HK.out | apply KeepBut.set_ | apply keep_drewN | apply keep_drew | apply keep_alloc | refine keep_far ?_ GW445.out _) | exact HK.out)) (KeepBut.of_below hb g none) (.inl rfl))
     have n5_ := Aside0.mk (below_step (by have ge_ := IsS42.ge HI0.out; exact tb) hb)
     have n6_ := Aside0.mk (hbox)
     have n7_ := Aside0.mk ((by rw [hg]; exact (keep_size (w := w) (g := g) (row := none) (by repeat (first | (with_reducible first | exact HK.out | apply KeepBut.set_ | apply keep_drewN | apply keep_drew | apply keep_alloc | refine keep_far ?_ GW445.out _) | exact HK.out))) : w.heap.size ≤ gb452))
     have n8_ := Aside0.mk ((Nat.le_trans HW0.out (by rw [hg]; exact (keep_size (w := w) (g := g) (row := none) (by repeat (first | (with_reducible first | exact HK.out | apply KeepBut.set_ | apply keep_drewN | apply keep_drew | apply keep_alloc | refine keep_far ?_ GW445.out _) | exact HK.out))) : w.heap.size ≤ gb452) : w0.heap.size ≤ gb452))
     have n9_ := Aside0.mk ((by rw [hg]; exact Nat.ne_of_lt (blk_lt (g := gb445) (o := .cells #[.slice none 0 0, .slice none 0 0, .int .i64 0, .bool false] 51 (0, 0)) (bu BK445.out)) : gb445 ≠ gb452))
     have n10_ := Aside0.mk ((by rw [hg]; exact Nat.ne_of_gt (blk_lt (g := gb445) (o := .cells #[.slice none 0 0, .slice none 0 0, .int .i64 0, .bool false] 51 (0, 0)) (bu BK445.out)) : gb452 ≠ gb445))
     have n11_ := Aside0.mk ((by rw [hg]; exact Nat.ne_of_lt (IsS42.lt (show IsS42 w0 _ g s0_0 s0_1 s0_2 s0_3 from by have hi_ := HI0.out; exact IsS42.up)) : g ≠ gb452))
     have n12_ := Aside0.mk ((by rw [hg]; exact Nat.ne_of_gt (IsS42.lt (show IsS42 w0 _ g s0_0 s0_1 s0_2 s0_3 from by have hi_ := HI0.out; exact IsS42.up)) : gb452 ≠ g))
     clear HO448
     clear HO451
     clear HI0
     clear BK445
     clear HK
     clear HB
     have HO448 := n0_
     have HO451 := n1_
     have HI0 := n2_
     have BK445 := n3_
     have HK := n4_
     have HB := n5_
     have BK452 := n6_
     have GW452 := n7_
     have GE452 := n8_
     have NB445_452 := n9_
     have NB452_445 := n10_
     have NB0_452 := n11_
     have NB452_0 := n12_
     clear n0_ n1_ n2_ n3_ n4_ n5_ n6_ n7_ n8_ n9_ n10_ n11_ n12_
     clear hb hbox hg
     refine hK.out _ _ ⟨(IsS42.cell_0 HI0.out), (IsS42.cell_1 HI0.out), (IsS42.cell_2 HI0.out), HZ3_⟩ (fun hHeld => ?_)
     clear hK K
     refine norm_ (a' := ?_) ?_ ?_
     rotate_left
     ·show Act.put _ (some 9) _ = _
      refine ps_ ?_
      rfl
     exact norm_ (by first | (simp only [putAll, Act.put, List.setIfInBounds_toArray, List.set_cons_zero, List.set_cons_succ]; done) | (simp only [putAll, Act.put, List.setIfInBounds_toArray, List.set_cons_zero, List.set_cons_succ]; rfl)) (hJ1_7_9 (.slice Ao17 t446.length co17, .slice Ao16 y449.length co16, gb452) _ ⟨hHeld, (ru HO448.out), (ru HO451.out), (bu BK445.out), (bu BK452.out), GW452.out, GE452.out, NB0_452.out, NB452_0.out, NB445_452.out, NB452_445.out, (by have hi_ := HI0.out; exact IsS42.up), (by repeat (first | (with_reducible first | exact HK.out | apply KeepBut.set_ | apply keep_drewN | apply keep_drew | apply keep_alloc | refine keep_far ?_ GW445.out _ | refine keep_far ?_ GW452.out _) | exact HK.out)), (by have ge_ := IsS42.ge HI0.out; exact tb)⟩)
   rintro ⟨v447, v450, gb452⟩ w16 ⟨hS_, h0_, h1_, h2_, h3_, h4_, h5_, h6_, h7_, h8_, h9_, h10_, h11_, h12_⟩
   have n0_ : Aside0 (Kd.R k39 39 w16 w.heap.size (fun k_ => some k_ ≠ (v450 : Value).ownBlock) v447 t446) := ⟨h0_⟩
   have n1_ : Aside0 (Kd.R k39 39 w16 w.heap.size (fun k_ => some k_ ≠ (v447 : Value).ownBlock) v450 y449) := ⟨h1_⟩
   have n2_ : Aside0 (w16.heap[gb445]? = some (.cells #[.slice none 0 0, .slice none 0 0, .int .i64 0, .bool false] 51 (0, 0))) := ⟨h2_⟩
   have n3_ : Aside0 (w16.heap[gb452]? = some (.cells #[.slice none 0 0, .slice none 0 0, .int .i64 0, .bool false] 51 (0, 0))) := ⟨h3_⟩
   have n4_ : Aside0 (w.heap.size ≤ gb452) := ⟨h4_⟩
   have n5_ : Aside0 (w0.heap.size ≤ gb452) := ⟨h5_⟩
   have n6_ : Aside0 (g ≠ gb452) := ⟨h6_⟩
   have n7_ : Aside0 (gb452 ≠ g) := ⟨h7_⟩
   have n8_ : Aside0 (gb445 ≠ gb452) := ⟨h8_⟩
   have n9_ : Aside0 (gb452 ≠ gb445) := ⟨h9_⟩
   have n10_ : Aside0 (IsS42 w0 w16 g s0_0 s0_1 s0_2 s0_3) := ⟨h10_⟩
   have n11_ : Aside0 (KeepBut w w16 g none) := ⟨h11_⟩
   have n12_ : Aside0 (Below w0.heap.size w0 w16) := ⟨h12_⟩
   clear BK445
   clear HI0
   clear HK
   clear HB
   clear h0_ h1_ h2_ h3_ h4_ h5_ h6_ h7_ h8_ h9_ h10_ h11_ h12_
   have HO448 := n0_
   have HO451 := n1_
   have BK445 := n2_
   have BK452 := n3_
   have GW452 := n4_
   have GE452 := n5_
   have NB0_452 := n6_
   have NB452_0 := n7_
   have NB445_452 := n8_
   have NB452_445 := n9_
   have HI0 := n10_
   have HK := n11_
   have HB := n12_
   clear n0_ n1_ n2_ n3_ n4_ n5_ n6_ n7_ n8_ n9_ n10_ n11_ n12_
   have hHeld : w16.cell? ⟨g, 0, none⟩ = some (.complex .f32 s0_0.re s0_0.im) ∧ w16.cell? ⟨g, 1, none⟩ = some (.complex .f32 s0_1.re s0_1.im) ∧ w16.cell? ⟨g, 2, none⟩ = some (.complex .f32 s0_2.re s0_2.im) ∧ w16.cell? ⟨g, 3, none⟩ = some (.slice Az23_ s0_3.length cz23_) := hS_
   obtain ⟨Ao17, co17, eo17⟩ := Kd.R_slice HO451.out
   (first | subst eo17 | (injection eo17 with f1_ f2_ f3_; have f4_ := f1_.symm; have f5_ := f3_.symm; clear f1_ f2_ f3_; subst f4_; subst f5_))
   obtain ⟨Ao18, co18, eo18⟩ := Kd.R_slice HO448.out
   (first | subst eo18 | (injection eo18 with f1_ f2_ f3_; have f4_ := f1_.symm; have f5_ := f3_.symm; clear f1_ f2_ f3_; subst f4_; subst f5_))
   refine norm_ (a' := ?_) ?_ ?_
   rotate_left
   ·simp only [putAll, Act.put, List.setIfInBounds_toArray, List.set_cons_zero, List.set_cons_succ]
    rfl
   refine one_ (i := 10) (N := none) #[true, true, true, true, true, true, true, true, true, true, true] rfl rfl (one_of HT_.out (by kernel_rfl)) (by decide) (fun K hK => ?_)
   have hs19 : w16.cell? ⟨gb452, 0, none⟩ = some (.slice none 0 0) := (blk_cell BK452.out 0).trans rfl
   have hfs19 := blk_frozen BK452.out 0
   have hns19_0 := NB445_452.out
   have hms19_0 := NB452_445.out
   have hs20 : w16.cell? ⟨gb452, 1, none⟩ = some (.slice none 0 0) := (blk_cell BK452.out 1).trans rfl
   have hfs20 := blk_frozen BK452.out 1
   have hns20_0 := NB445_452.out
   have hms20_0 := NB452_445.out
   have hs21 : w16.cell? ⟨gb452, 2, none⟩ = some (.int .i64 0) := (blk_cell BK452.out 2).trans rfl
   have hfs21 := blk_frozen BK452.out 2
   have hns21_0 := NB445_452.out
   have hms21_0 := NB452_445.out
   have hs22 : w16.cell? ⟨gb452, 3, none⟩ = some (.bool false) := (blk_cell BK452.out 3).trans rfl
   have hfs22 := blk_frozen BK452.out 3
   have hns22_0 := NB445_452.out
   have hms22_0 := NB452_445.out
   refine skip_ (w1 := ?_) (by rfl) rfl ?_ ?_
   rotate_left
   ·go_simp
    rfl
   refine hK.out _ _ ⟨((cell_far (p := ⟨gb452, _, none⟩) NB0_452.out _).trans (((cell_far (p := ⟨gb452, _, none⟩) NB0_452.out _).trans (((cell_far (p := ⟨gb452, _, none⟩) NB0_452.out _).trans (((cell_far (p := ⟨gb452, _, none⟩) NB0_452.out _).trans (hHeld.1)))))))), ((cell_far (p := ⟨gb452, _, none⟩) NB0_452.out _).trans (((cell_far (p := ⟨gb452, _, none⟩) NB0_452.out _).trans (((cell_far (p := ⟨gb452, _, none⟩) NB0_452.out _).trans (((cell_far (p := ⟨gb452, _, none⟩) NB0_452.out _).trans (hHeld.2.1)))))))), ((cell_far (p := ⟨gb452, _, none⟩) NB0_452.out _).trans (((cell_far (p := ⟨gb452, _, none⟩) NB0_452.out _).trans (((cell_far (p := ⟨gb452, _, none⟩) NB0_452.out _).trans (((cell_far (p := ⟨gb452, _, none⟩) NB0_452.out _).trans (hHeld.2.2.1)))))))), ((cell_far (p := ⟨gb452, _, none⟩) NB0_452.out _).trans (((cell_far (p := ⟨gb452, _, none⟩) NB0_452.out _).trans (((cell_far (p := ⟨gb452, _, none⟩) NB0_452.out _).trans (((cell_far (p := ⟨gb452, _, none⟩) NB0_452.out _).trans (hHeld.2.2.2))))))))⟩ (fun hHeld => ?_)
   clear hK K
   refine done_ (done_of HT_.out (by kernel_rfl)) ?_
   try go_wp2
   go_loopg [20] k (fun kq v20 w' => ∃ (x20_1 : Int) (x1000_1 : Cx) (x1001_1 : Cx) (x1002_1 : Cx) (x453000_1 : List (S39)) (x453001_1 : List (S39)) (x453002_1 : Int) (x453003_1 : Bool) (u453000 : Value) (u453001 : Value), v20 = .int .i64 x20_1 ∧ Aside0 (impl_Feeder_sweeps_f82.l0 kq a2 a2 x20_1 x1000_1 x1001_1 x1002_1 s0_3 x453000_1 x453001_1 x453002_1 x453003_1 = some (r1, r2, r3, r4, r5, r6, r7)) ∧ Aside0 (kq ≤ k) ∧ Aside0 (Kd.R k39 39 w' w.heap.size (fun k_ => some k_ ≠ (u453001 : Value).ownBlock) u453000 x453000_1) ∧ Aside0 (Kd.R k39 39 w' w.heap.size (fun k_ => some k_ ≠ (u453000 : Value).ownBlock) u453001 x453001_1) ∧ Aside0 (w'.heap[gb445]? = some (.cells #[(.slice none 0 0), (.slice none 0 0), .int .i64 0, .bool false] 51 (0, 0))) ∧ Aside0 (w'.heap[gb452]? = some (.cells #[u453000, u453001, .int .i64 x453002_1, .bool x453003_1] 51 (0, 0))) ∧ Aside0 (IsS42 w0 w' g x1000_1 x1001_1 x1002_1 s0_3) ∧ Aside0 (KeepBut w w' g none) ∧ Aside0 (Below w0.heap.size w0 w'))
   case atStart => exact ⟨(0), (s0_0), (s0_1), (s0_2), (t446), (y449), (0), (false), (.slice Ao18 t446.length co18), (.slice Ao17 y449.length co17), rs_, H', ⟨Nat.le_refl _⟩, ⟨by refine ru ?_; exact Kd.R_mono (Kd.R_far (p := ⟨gb452, 3, none⟩) (Kd.R_far (p := ⟨gb452, 2, none⟩) (Kd.R_far (p := ⟨gb452, 1, none⟩) (Kd.R_far (p := ⟨gb452, 0, none⟩) (Kd.R_types HO448.out BK452.out (by decide)) (fun _ hk => hk.2) (.slice Ao18 t446.length co18)) (fun _ hk => hk.2) (.slice Ao17 y449.length co17)) (fun _ hk => hk.2) (.int .i64 0)) (fun _ hk => hk.2) (.bool false)) (fun _ hk => hk.1)⟩, ⟨by refine ru ?_; exact Kd.R_mono (Kd.R_far (p := ⟨gb452, 3, none⟩) (Kd.R_far (p := ⟨gb452, 2, none⟩) (Kd.R_far (p := ⟨gb452, 1, none⟩) (Kd.R_far (p := ⟨gb452, 0, none⟩) (Kd.R_types HO451.out BK452.out (by decide)) (fun _ hk => hk.2) (.slice Ao18 t446.length co18)) (fun _ hk => hk.2) (.slice Ao17 y449.length co17)) (fun _ hk => hk.2) (.int .i64 0)) (fun _ hk => hk.2) (.bool false)) (fun _ hk => hk.1)⟩, ⟨by refine bv ?_; exact BK445.out⟩, ⟨by refine bu ?_; refine blk_put (cs := #[.slice Ao18 t446.length co18, .slice Ao17 y449.length co17, .int .i64 0, .bool false]) ?_ 3 _ rfl; refine bu ?_; refine blk_put (cs := #[.slice Ao18 t446.length co18, .slice Ao17 y449.length co17, .int .i64 0, .bool false]) ?_ 2 _ rfl; refine bu ?_; refine blk_put (cs := #[.slice Ao18 t446.length co18, .slice none 0 0, .int .i64 0, .bool false]) ?_ 1 _ rfl; refine bu ?_; refine blk_put (cs := #[.slice none 0 0, .slice none 0 0, .int .i64 0, .bool false]) ?_ 0 _ rfl; refine bu ?_; exact BK452.out⟩, ⟨by have hi_ := HI0.out; exact IsS42.up⟩, ⟨by repeat (first | (with_reducible first | exact HK.out | apply KeepBut.set_ | apply keep_drewN | apply keep_drew | apply keep_alloc | refine keep_far ?_ GW445.out _ | refine keep_far ?_ GW452.out _) | exact HK.out)⟩, ⟨by have ge_ := IsS42.ge HI0.out; exact tb⟩⟩
   case round =>
    clear H'
    try clear c1
    try clear p2
    try clear c14
    obtain ⟨x20_1, x1000_1, x1001_1, x1002_1, x453000_1, x453001_1, x453002_1, x453003_1, u453000, u453001, rfl, HA, HK1, HO_453000, HO_453001, BK445, BK452, HI0, HK, HB⟩ := hrel
    cases gk with
    | zero => exact absurd HA.out (by simp [impl_Feeder_sweeps_f82.l0])
    | succ k1 =>
     have H := HA.out
     clear HA
     simp only [impl_Feeder_sweeps_f82.l0] at H
     by_cases c24 : x20_1 < a2
     ·rw [if_pos c24] at H
      have c24b0 : decide (x20_1 < a2) = true := decide_eq_true c24
      clear c24
      replace H := Option.bind_eq_some_iff.mp H
      obtain ⟨⟨t453, t456, t459, t460, t461, t462, t463⟩, A250, H⟩ := H
      try dsimp only at H
      have A25 := Aside0.mk A250
      clear A250
      have H' := Aside0.mk H
      clear H
      have hnb26 := NB452_445.out
      have hnc26 := NB445_452.out
      have hnb27 := NB452_0.out
      have hnc27 := NB0_452.out
      have hcz28_0 : wr.cell? ⟨gb452, 0, none⟩ = some (u453000) := (blk_cell BK452.out 0).trans rfl
      have hcz28_1 : wr.cell? ⟨gb452, 1, none⟩ = some (u453001) := (blk_cell BK452.out 1).trans rfl
      have hcz28_2 : wr.cell? ⟨gb452, 2, none⟩ = some (.int .i64 x453002_1) := (blk_cell BK452.out 2).trans rfl
      have hcz28_3 : wr.cell? ⟨gb452, 3, none⟩ = some (.bool x453003_1) := (blk_cell BK452.out 3).trans rfl
      have hfz28_0 := blk_frozen BK452.out 0
      have hfz28_1 := blk_frozen BK452.out 1
      have hfz28_2 := blk_frozen BK452.out 2
      have hfz28_3 := blk_frozen BK452.out 3
      obtain ⟨Ao29, co29, eo29⟩ := Kd.R_slice HO_453000.out
      subst eo29
      go_wp2_with (first | ((with_reducible refine gate_callee (f := 81) rfl ?_); refine gx_ (some 26) Try.func81 #[.pointer (some ⟨g, 0, none⟩), .slice Ao29 x453000_1.length co29, .func (.func 82) #[] #[]] ?_; (with_reducible refine (impl_Feeder_sweep_f82.calls k1 g x1000_1 x1001_1 x1002_1 s0_3 _ _ x453000_1  t453 t456 t459 t460 t461 t462 t463 w0 _ ?side1 ?side2 ?side3 ?side4 A25.out).mono ?_); (case side1 => have hi_ := HI0.out; exact IsS42.up); (case side2 => have ge_ := IsS42.ge HI0.out; exact tb); (case side3 => exact Kd.C_foot_own (IsS42.apart (show IsS42 w0 _ g x1000_1 x1001_1 x1002_1 s0_3 from by have hi_ := HI0.out; exact IsS42.up) (ru HO_453000.out) (by decide)) (fun _ h_ => h_.2)); (case side4 => exact (Kd.R_reads' HO_453000.out).2.1); rintro e w30 ⟨v454, v457, rfl, ho0, ho1, hi, hb, hk⟩; refine ⟨_, rfl, ?_⟩; have n0_ := Aside0.mk (Kd.R_mono (Kd.R_told (Kd.R_told (Kd.R_oldK (IsS42.apart (show IsS42 w0 _ g x1000_1 x1001_1 x1002_1 s0_3 from by have hi_ := HI0.out; exact IsS42.up) (ru HO_453000.out) (by decide)) hk) (Kd.R_base ho0)) (Kd.R_base ho1)) (fun _ h_ => h_.1)); have n1_ := Aside0.mk (Kd.R_mono (Kd.R_told (Kd.R_told (Kd.R_oldK (IsS42.apart (show IsS42 w0 _ g x1000_1 x1001_1 x1002_1 s0_3 from by have hi_ := HI0.out; exact IsS42.up) (ru HO_453001.out) (by decide)) hk) (Kd.R_base ho0)) (Kd.R_base ho1)) (fun _ h_ => h_.1)); have n2_ := Aside0.mk (KeepBut.blk hk (g' := gb445) (o := .cells #[.slice none 0 0, .slice none 0 0, .int .i64 0, .bool false] 51 (0, 0)) (bu BK445.out) NB445_0.out (by simp)); have n3_ := Aside0.mk (KeepBut.blk hk (g' := gb452) (o := .cells #[.slice Ao29 x453000_1.length co29, u453001, .int .i64 x453002_1, .bool x453003_1] 51 (0, 0)) (bu BK452.out) NB452_0.out (by simp)); have n4_ := Aside0.mk (Kd.R_lower (Kd.R_new' (Kd.R_new' ho0 (Kd.R_lt (ru HO_453000.out))) (Kd.R_lt (ru HO_453001.out))) (keep_size (w := w) (g := g) (row := none) (by repeat (first | (with_reducible first | exact HK.out | apply KeepBut.set_ | apply keep_drewN | apply keep_drew | apply keep_alloc | refine keep_far ?_ GW445.out _ | refine keep_far ?_ GW452.out _) | exact HK.out)))); have n5_ := Aside0.mk (Kd.R_lower (Kd.R_new' (Kd.R_new' ho1 (Kd.R_lt (ru HO_453000.out))) (Kd.R_lt (ru HO_453001.out))) (keep_size (w := w) (g := g) (row := none) (by repeat (first | (with_reducible first | exact HK.out | apply KeepBut.set_ | apply keep_drewN | apply keep_drew | apply keep_alloc | refine keep_far ?_ GW445.out _ | refine keep_far ?_ GW452.out _) | exact HK.out)))); have n6_ := Aside0.mk (KeepBut.trans (by repeat (first | (with_reducible first | exact HK.out | apply KeepBut.set_ | apply keep_drewN | apply keep_drew | apply keep_alloc | refine keep_far ?_ GW445.out _ | refine keep_far ?_ GW452.out _) | exact HK.out)) hk (.inl rfl)); have n7_ := Aside0.mk (hb); have n8_ := Aside0.mk (hi); clear HO_453000; clear HO_453001; clear BK445; clear BK452; clear HK; clear HB; clear HI0; have HO_453000 := n0_; have HO_453001 := n1_; have BK445 := n2_; have BK452 := n3_; have HO455 := n4_; have HO458 := n5_; have HK := n6_; have HB := n7_; have HI0 := n8_; clear n0_ n1_ n2_ n3_ n4_ n5_ n6_ n7_ n8_; (try clear hb); (try clear hb2); (try clear hk); (try clear hi); (try clear ho0); (try clear ho1); obtain ⟨Ao31, co31, eo31⟩ := Kd.R_slice HO455.out; subst eo31; have hcz32_0 : w30.cell? ⟨gb452, 0, none⟩ = some (.slice Ao29 x453000_1.length co29) := (blk_cell BK452.out 0).trans rfl; have hcz32_1 : w30.cell? ⟨gb452, 1, none⟩ = some (u453001) := (blk_cell BK452.out 1).trans rfl; have hcz32_2 : w30.cell? ⟨gb452, 2, none⟩ = some (.int .i64 x453002_1) := (blk_cell BK452.out 2).trans rfl; have hcz32_3 : w30.cell? ⟨gb452, 3, none⟩ = some (.bool x453003_1) := (blk_cell BK452.out 3).trans rfl; have hfz32_0 := blk_frozen BK452.out 0; have hfz32_1 := blk_frozen BK452.out 1; have hfz32_2 := blk_frozen BK452.out 2; have hfz32_3 := blk_frozen BK452.out 3; obtain ⟨Ao33, co33, eo33⟩ := Kd.R_slice HO458.out; subst eo33))
      go_roundg k1
      case measure => have := HK1.out; omega
      case rel => exact ⟨(wrap64 (x20_1 + 1)), (t461), (t462), (t463), (t453), (t456), (t459), (t460), (.slice Ao31 t453.length co31), (.slice Ao33 t456.length co33), rs_, H', ⟨by have := HK1.out; omega⟩, ⟨by refine ru ?_; exact Kd.R_mono (Kd.R_far (p := ⟨gb452, 3, none⟩) (Kd.R_far (p := ⟨gb452, 2, none⟩) (Kd.R_far (p := ⟨gb452, 1, none⟩) (Kd.R_far (p := ⟨gb452, 0, none⟩) (Kd.R_types HO455.out BK452.out (by decide)) (fun _ hk => hk.2) (.slice Ao31 t453.length co31)) (fun _ hk => hk.2) (.slice Ao33 t456.length co33)) (fun _ hk => hk.2) (.int .i64 t459)) (fun _ hk => hk.2) (.bool t460)) (fun _ hk => hk.1.1.1)⟩, ⟨by refine ru ?_; exact Kd.R_mono (Kd.R_far (p := ⟨gb452, 3, none⟩) (Kd.R_far (p := ⟨gb452, 2, none⟩) (Kd.R_far (p := ⟨gb452, 1, none⟩) (Kd.R_far (p := ⟨gb452, 0, none⟩) (Kd.R_types HO458.out BK452.out (by decide)) (fun _ hk => hk.2) (.slice Ao31 t453.length co31)) (fun _ hk => hk.2) (.slice Ao33 t456.length co33)) (fun _ hk => hk.2) (.int .i64 t459)) (fun _ hk => hk.2) (.bool t460)) (fun _ hk => hk.1.1.1)⟩, ⟨by refine bv ?_; exact BK445.out⟩, ⟨by refine bu ?_; refine blk_put (cs := #[.slice Ao31 t453.length co31, .slice Ao33 t456.length co33, .int .i64 t459, .bool x453003_1]) ?_ 3 _ rfl; refine bu ?_; refine blk_put (cs := #[.slice Ao31 t453.length co31, .slice Ao33 t456.length co33, .int .i64 x453002_1, .bool x453003_1]) ?_ 2 _ rfl; refine bu ?_; refine blk_put (cs := #[.slice Ao31 t453.length co31, u453001, .int .i64 x453002_1, .bool x453003_1]) ?_ 1 _ rfl; refine bu ?_; refine blk_put (cs := #[.slice Ao29 x453000_1.length co29, u453001, .int .i64 x453002_1, .bool x453003_1]) ?_ 0 _ rfl; refine bu ?_; exact BK452.out⟩, ⟨by have hi_ := HI0.out; exact IsS42.up⟩, ⟨by repeat (first | (with_reducible first | exact HK.out | apply KeepBut.set_ | apply keep_drewN | apply keep_drew | apply keep_alloc | refine keep_far ?_ GW445.out _ | refine keep_far ?_ GW452.out _) | exact HK.out)⟩, ⟨by have ge_ := IsS42.ge HI0.out; exact tb⟩⟩
     ·rw [if_neg c24] at H
      have c24b0 : decide (x20_1 < a2) = false := decide_eq_false c24
      clear c24
      simp only [Option.some.injEq, Prod.mk.injEq] at H
      obtain ⟨rfl, rfl, rfl, rfl, rfl, rfl, rfl⟩ := H
      have hnb34 := NB452_445.out
      have hnc34 := NB445_452.out
      have hnb35 := NB452_0.out
      have hnc35 := NB0_452.out
      have hcz36_0 : wr.cell? ⟨gb452, 0, none⟩ = some (u453000) := (blk_cell BK452.out 0).trans rfl
      have hcz36_1 : wr.cell? ⟨gb452, 1, none⟩ = some (u453001) := (blk_cell BK452.out 1).trans rfl
      have hcz36_2 : wr.cell? ⟨gb452, 2, none⟩ = some (.int .i64 x453002_1) := (blk_cell BK452.out 2).trans rfl
      have hcz36_3 : wr.cell? ⟨gb452, 3, none⟩ = some (.bool x453003_1) := (blk_cell BK452.out 3).trans rfl
      have hfz36_0 := blk_frozen BK452.out 0
      have hfz36_1 := blk_frozen BK452.out 1
      have hfz36_2 := blk_frozen BK452.out 2
      have hfz36_3 := blk_frozen BK452.out 3
      obtain ⟨Ao37, co37, eo37⟩ := Kd.R_slice HO_453000.out
      subst eo37
      have hnb38 := NB445_0.out
      have hnc38 := NB0_445.out
      have hcz39_0 : wr.cell? ⟨gb445, 0, none⟩ = some (.slice none 0 0) := (blk_cell BK445.out 0).trans rfl
      have hcz39_1 : wr.cell? ⟨gb445, 1, none⟩ = some (.slice none 0 0) := (blk_cell BK445.out 1).trans rfl
      have hcz39_2 : wr.cell? ⟨gb445, 2, none⟩ = some (.int .i64 0) := (blk_cell BK445.out 2).trans rfl
      have hcz39_3 : wr.cell? ⟨gb445, 3, none⟩ = some (.bool false) := (blk_cell BK445.out 3).trans rfl
      have hfz39_0 := blk_frozen BK445.out 0
      have hfz39_1 := blk_frozen BK445.out 1
      have hfz39_2 := blk_frozen BK445.out 2
      have hfz39_3 := blk_frozen BK445.out 3
      obtain ⟨Ao40, co40, eo40⟩ := Kd.R_slice HO_453001.out
      subst eo40
      go_wp2
      refine bodyPost_ret (results_cell_row rfl _ _ gb445 51 #[.slice Ao37 x453000_1.length co37, .slice Ao40 x453001_1.length co40, .int .i64 a2, .bool x453003_1] (0, 0) _ rfl (by refine bu ?_; refine blk_put (cs := #[.slice Ao37 x453000_1.length co37, .slice Ao40 x453001_1.length co40, .int .i64 a2, .bool false]) ?_ 3 _ rfl; refine bu ?_; refine blk_put (cs := #[.slice Ao37 x453000_1.length co37, .slice Ao40 x453001_1.length co40, .int .i64 0, .bool false]) ?_ 2 _ rfl; refine bu ?_; refine blk_put (cs := #[.slice Ao37 x453000_1.length co37, .slice none 0 0, .int .i64 0, .bool false]) ?_ 1 _ rfl; refine bu ?_; refine blk_put (cs := #[.slice none 0 0, .slice none 0 0, .int .i64 0, .bool false]) ?_ 0 _ rfl; refine bv ?_; exact BK445.out) Try.underlying51 rfl (by kernel_rfl)) rfl ?_
      exact ⟨_, _, re_, by refine ru ?_; exact Kd.R_mono (Kd.R_far (p := ⟨gb445, 3, none⟩) (Kd.R_far (p := ⟨gb445, 2, none⟩) (Kd.R_far (p := ⟨gb445, 1, none⟩) (Kd.R_far (p := ⟨gb445, 0, none⟩) (Kd.R_far (p := ⟨gb452, 2, none⟩) (Kd.R_types (Kd.R_types HO_453000.out BK452.out (by decide)) BK445.out (by decide)) (fun _ hk => hk.1.2) (.int .i64 a2)) (fun _ hk => hk.2) (.slice Ao37 x453000_1.length co37)) (fun _ hk => hk.2) (.slice Ao40 x453001_1.length co40)) (fun _ hk => hk.2) (.int .i64 a2)) (fun _ hk => hk.2) (.bool x453003_1)) (fun _ hk => hk.1.1), by refine ru ?_; exact Kd.R_mono (Kd.R_far (p := ⟨gb445, 3, none⟩) (Kd.R_far (p := ⟨gb445, 2, none⟩) (Kd.R_far (p := ⟨gb445, 1, none⟩) (Kd.R_far (p := ⟨gb445, 0, none⟩) (Kd.R_far (p := ⟨gb452, 2, none⟩) (Kd.R_types (Kd.R_types HO_453001.out BK452.out (by decide)) BK445.out (by decide)) (fun _ hk => hk.1.2) (.int .i64 a2)) (fun _ hk => hk.2) (.slice Ao37 x453000_1.length co37)) (fun _ hk => hk.2) (.slice Ao40 x453001_1.length co40)) (fun _ hk => hk.2) (.int .i64 a2)) (fun _ hk => hk.2) (.bool x453003_1)) (fun _ hk => hk.1.1), by have hi_ := HI0.out; exact IsS42.up, by have ge_ := IsS42.ge HI0.out; exact tb, by repeat (first | (with_reducible first | exact HK.out | apply KeepBut.set_ | apply keep_drewN | apply keep_drew | apply keep_alloc | refine keep_far ?_ GW445.out _ | refine keep_far ?_ GW452.out _) | exact HK.out)⟩
  ·rw [if_neg c7] at H
   exact absurd H (by simp)
 ·rw [if_neg c6] at H
  exact absurd H (by simp)

end Go.Proofs.Ytcgpomicgbmdlaa.PFnBanks
