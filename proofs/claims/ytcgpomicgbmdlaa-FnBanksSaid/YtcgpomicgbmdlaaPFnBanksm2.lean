-- Words and walks of the print, as far as this claim uses them (laid by wip/mkclaim.py of this session). Lean checks it.
import Derived.Test.YtcgpomicgbmdlaaFl
import Derived.Test.YtcgpomicgbmdlaaPFnBanksm0
import Derived.Test.YtcgpomicgbmdlaaPFnBanksm1
namespace Go.Proofs.Ytcgpomicgbmdlaa.PFnBanks
open Go.RowKit Go.Proofs.YtcgpomicgbmdlaaW.PrintWords Go.Proofs.YtcgpomicgbmdlaaW.PrintLast Go.Proofs.YtcgpomicgbmdlaaW.PrintMore
attribute [local go_sem] max2_int min2_int max_two min_two max_three min_three max_four min_four   -- for this text's walks alone
set_option linter.unusedVariables false
set_option linter.unusedSimpArgs false

/-! ### impl_ValidFeeder: function 34 -/
mutual
def impl_ValidFeeder.l0 : Nat → List (S66) → Int → Int → Cx → Cx → Cx → List (S66) → Option (Bool)
 | 0, _, _, _, _, _, _, _ => none
 | k + 1, x6, x7, x8, x196000, x196001, x196002, x196003 => if x8 < x7 then (if 0 ≤ x8 then (if x8 < (x6.length : Int) then ((impl_kindOk.f ((rd_T66 x6 x8).f3)).bind fun t199 => (if t199 = true then ((impl_in.f ((rd_T66 x6 x8).f5) 0 1000000).bind fun t200 => (impl_ValidFeeder.j1 k x8 x6 x7 x8 (!t200) x196000 x196001 x196002 x196003 ((rd_T66 x6 x8).f0) ((rd_T66 x6 x8).f1) ((rd_T66 x6 x8).f2) ((rd_T66 x6 x8).f3) ((rd_T66 x6 x8).f4.f0) ((rd_T66 x6 x8).f4.f1) ((rd_T66 x6 x8).f4.f2) ((rd_T66 x6 x8).f5))) else (impl_ValidFeeder.j1 k x8 x6 x7 x8 true x196000 x196001 x196002 x196003 ((rd_T66 x6 x8).f0) ((rd_T66 x6 x8).f1) ((rd_T66 x6 x8).f2) ((rd_T66 x6 x8).f3) ((rd_T66 x6 x8).f4.f0) ((rd_T66 x6 x8).f4.f1) ((rd_T66 x6 x8).f4.f2) ((rd_T66 x6 x8).f5)))) else (none)) else (none)) else ((impl_in.f (x196003.length : Int) 1 16).bind fun t196 => (some t196))
def impl_ValidFeeder.j1 : Nat → Int → List (S66) → Int → Int → Bool → Cx → Cx → Cx → List (S66) → Int → Cx → Cx → Int → Cx → Cx → Cx → Int → Option (Bool)
 | 0, _, _, _, _, _, _, _, _, _, _, _, _, _, _, _, _, _ => none
 | k + 1, x3, x6, x7, x8, x13, x196000, x196001, x196002, x196003, x199000, x199001, x199002, x199003, x199004, x199005, x199006, x199007 => if x13 = true then (some false) else (if x3 = 0 then (if x199000 = (-1) then (if (cne .f32 x199001.re x199001.im 0 0) = true then (impl_ValidFeeder.j2 k x3 x6 x7 x8 true x196000 x196001 x196002 x196003 x199000 x199001 x199002 x199003 x199004 x199005 x199006 x199007) else (impl_ValidFeeder.j2 k x3 x6 x7 x8 (cne .f32 x199002.re x199002.im 0 0) x196000 x196001 x196002 x196003 x199000 x199001 x199002 x199003 x199004 x199005 x199006 x199007)) else (impl_ValidFeeder.j2 k x3 x6 x7 x8 true x196000 x196001 x196002 x196003 x199000 x199001 x199002 x199003 x199004 x199005 x199006 x199007)) else (impl_ValidFeeder.j2 k x3 x6 x7 x8 false x196000 x196001 x196002 x196003 x199000 x199001 x199002 x199003 x199004 x199005 x199006 x199007))
def impl_ValidFeeder.j2 : Nat → Int → List (S66) → Int → Int → Bool → Cx → Cx → Cx → List (S66) → Int → Cx → Cx → Int → Cx → Cx → Cx → Int → Option (Bool)
 | 0, _, _, _, _, _, _, _, _, _, _, _, _, _, _, _, _, _ => none
 | k + 1, x3, x6, x7, x8, x24, x196000, x196001, x196002, x196003, x199000, x199001, x199002, x199003, x199004, x199005, x199006, x199007 => if x24 = true then (some false) else (if x3 > 0 then ((impl_in.f x199000 0 (wrap64 (x3 - 1))).bind fun t201 => (if t201 = true then (impl_ValidFeeder.l0 k x6 x7 (wrap64 (x8 + 1)) x196000 x196001 x196002 x196003) else (some false))) else (impl_ValidFeeder.l0 k x6 x7 (wrap64 (x8 + 1)) x196000 x196001 x196002 x196003))
end
def impl_ValidFeeder.f (k : Nat) (a0_0 : Cx) (a0_1 : Cx) (a0_2 : Cx) (l0_3 : List (S66)) : Option (Bool) := impl_ValidFeeder.l0 k l0_3 (l0_3.length : Int) 0 a0_0 a0_1 a0_2 l0_3
theorem impl_ValidFeeder.mono_l : ∀ k, (∀ y0 y1 y2 y3 y4 y5 y6, LeO (impl_ValidFeeder.l0 k y0 y1 y2 y3 y4 y5 y6) (impl_ValidFeeder.l0 (k + 1) y0 y1 y2 y3 y4 y5 y6)) ∧ (∀ y0 y1 y2 y3 y4 y5 y6 y7 y8 y9 y10 y11 y12 y13 y14 y15 y16, LeO (impl_ValidFeeder.j1 k y0 y1 y2 y3 y4 y5 y6 y7 y8 y9 y10 y11 y12 y13 y14 y15 y16) (impl_ValidFeeder.j1 (k + 1) y0 y1 y2 y3 y4 y5 y6 y7 y8 y9 y10 y11 y12 y13 y14 y15 y16)) ∧ (∀ y0 y1 y2 y3 y4 y5 y6 y7 y8 y9 y10 y11 y12 y13 y14 y15 y16, LeO (impl_ValidFeeder.j2 k y0 y1 y2 y3 y4 y5 y6 y7 y8 y9 y10 y11 y12 y13 y14 y15 y16) (impl_ValidFeeder.j2 (k + 1) y0 y1 y2 y3 y4 y5 y6 y7 y8 y9 y10 y11 y12 y13 y14 y15 y16))
 | 0 => ⟨fun _ _ _ _ _ _ _ r h => by simp [impl_ValidFeeder.l0] at h, fun _ _ _ _ _ _ _ _ _ _ _ _ _ _ _ _ _ r h => by simp [impl_ValidFeeder.j1] at h, fun _ _ _ _ _ _ _ _ _ _ _ _ _ _ _ _ _ r h => by simp [impl_ValidFeeder.j2] at h⟩
 | k + 1 => by
  obtain ⟨ih0, ih1, ih2⟩ := impl_ValidFeeder.mono_l k
  refine ⟨?_, ?_, ?_⟩
  ·intro y0 y1 y2 y3 y4 y5 y6
   unfold impl_ValidFeeder.l0
   repeat' first
   | (with_reducible exact ih0 _ _ _ _ _ _ _)
   | (with_reducible exact ih1 _ _ _ _ _ _ _ _ _ _ _ _ _ _ _ _ _)
   | (with_reducible exact ih2 _ _ _ _ _ _ _ _ _ _ _ _ _ _ _ _ _)
   | (with_reducible exact LeO.refl _)
   | (with_reducible exact LeO.none _)
   | (with_reducible refine LeO.ite ?_ ?_)
   | (with_reducible refine LeO.bind ?_ (fun _ => ?_))
   | exact ih0 _ _ _ _ _ _ _
   | exact ih1 _ _ _ _ _ _ _ _ _ _ _ _ _ _ _ _ _
   | exact ih2 _ _ _ _ _ _ _ _ _ _ _ _ _ _ _ _ _
   | exact LeO.none _
   | refine LeO.ite ?_ ?_
   | refine LeO.bind ?_ (fun _ => ?_)
  ·intro y0 y1 y2 y3 y4 y5 y6 y7 y8 y9 y10 y11 y12 y13 y14 y15 y16
   unfold impl_ValidFeeder.j1
   repeat' first
   | (with_reducible exact ih0 _ _ _ _ _ _ _)
   | (with_reducible exact ih1 _ _ _ _ _ _ _ _ _ _ _ _ _ _ _ _ _)
   | (with_reducible exact ih2 _ _ _ _ _ _ _ _ _ _ _ _ _ _ _ _ _)
   | (with_reducible exact LeO.refl _)
   | (with_reducible exact LeO.none _)
   | (with_reducible refine LeO.ite ?_ ?_)
   | (with_reducible refine LeO.bind ?_ (fun _ => ?_))
   | exact ih0 _ _ _ _ _ _ _
   | exact ih1 _ _ _ _ _ _ _ _ _ _ _ _ _ _ _ _ _
   | exact ih2 _ _ _ _ _ _ _ _ _ _ _ _ _ _ _ _ _
   | exact LeO.none _
   | refine LeO.ite ?_ ?_
   | refine LeO.bind ?_ (fun _ => ?_)
  ·intro y0 y1 y2 y3 y4 y5 y6 y7 y8 y9 y10 y11 y12 y13 y14 y15 y16
   unfold impl_ValidFeeder.j2
   repeat' first
   | (with_reducible exact ih0 _ _ _ _ _ _ _)
   | (with_reducible exact ih1 _ _ _ _ _ _ _ _ _ _ _ _ _ _ _ _ _)
   | (with_reducible exact ih2 _ _ _ _ _ _ _ _ _ _ _ _ _ _ _ _ _)
   | (with_reducible exact LeO.refl _)
   | (with_reducible exact LeO.none _)
   | (with_reducible refine LeO.ite ?_ ?_)
   | (with_reducible refine LeO.bind ?_ (fun _ => ?_))
   | exact ih0 _ _ _ _ _ _ _
   | exact ih1 _ _ _ _ _ _ _ _ _ _ _ _ _ _ _ _ _
   | exact ih2 _ _ _ _ _ _ _ _ _ _ _ _ _ _ _ _ _
   | exact LeO.none _
   | refine LeO.ite ?_ ?_
   | refine LeO.bind ?_ (fun _ => ?_)
theorem impl_ValidFeeder.mono : ∀ a0 a1 a2 a3 k, LeO (impl_ValidFeeder.f k a0 a1 a2 a3) (impl_ValidFeeder.f (k + 1) a0 a1 a2 a3) := by
 intro a0 a1 a2 a3 k
 obtain ⟨ih0, ih1, ih2⟩ := impl_ValidFeeder.mono_l k
 unfold impl_ValidFeeder.f
 repeat' first
   | (with_reducible exact ih0 _ _ _ _ _ _ _)
   | (with_reducible exact ih1 _ _ _ _ _ _ _ _ _ _ _ _ _ _ _ _ _)
   | (with_reducible exact ih2 _ _ _ _ _ _ _ _ _ _ _ _ _ _ _ _ _)
   | (with_reducible exact LeO.refl _)
   | (with_reducible exact LeO.none _)
   | (with_reducible refine LeO.ite ?_ ?_)
   | (with_reducible refine LeO.bind ?_ (fun _ => ?_))
   | exact ih0 _ _ _ _ _ _ _
   | exact ih1 _ _ _ _ _ _ _ _ _ _ _ _ _ _ _ _ _
   | exact ih2 _ _ _ _ _ _ _ _ _ _ _ _ _ _ _ _ _
   | exact LeO.none _
   | refine LeO.ite ?_ ?_
   | refine LeO.bind ?_ (fun _ => ?_)
set_option maxHeartbeats 8000000 in
set_option maxRecDepth 100000 in
theorem impl_ValidFeeder.calls (k : Nat) (a0_0 : Cx) (a0_1 : Cx) (a0_2 : Cx) (A0_3 : Option Addr) (c0_3 : Nat) (l0_3 : List (S66)) (r : Bool) (w : World) (hr0_3 : Kd.C k66 w A0_3 l0_3.length l0_3) (hc0_3 : l0_3.length ≤ c0_3) (h : impl_ValidFeeder.f k a0_0 a0_1 a0_2 l0_3 = some r) :
  Calls Try.prog 34 #[.agg #[.complex .f32 a0_0.re a0_0.im, .complex .f32 a0_1.re a0_1.im, .complex .f32 a0_2.re a0_2.im, .slice A0_3 l0_3.length c0_3]] w fun e w' => e = .returned (.bool r) ∧ Below w.heap.size w w' := by
 have hu42 := Try.underlying42
 have hu66 := Try.underlying66
 have HR0_3 := Aside0.mk hr0_3
 have HC0_3 := Aside0.mk hc0_3
 clear hr0_3 hc0_3
 have HB := Aside0.mk (Below.refl w.heap.size w)
 have H : (impl_ValidFeeder.l0 k l0_3 (l0_3.length : Int) 0 a0_0 a0_1 a0_2 l0_3) = some r := h
 clear h
 have H' := Aside0.mk H
 clear H
 go_enter Try.func34, Try.ntmps34
 go_wp2_with (first | ((with_reducible refine gate_dst (N := 1) rfl ?_); refine box_event ?hg (N := 1) ?hd (cs := #[.complex .f32 a0_0.re a0_0.im, .complex .f32 a0_1.re a0_1.im, .complex .f32 a0_2.re a0_2.im, .slice A0_3 l0_3.length c0_3]) (t := 42) ?hr ?_; (case hd => rfl); (case hg => rfl); (case hr => first | (go_simp; done) | (go_simp; rfl)); intro gb195 hg w2 hbox hb; have n0_ := Aside0.mk (below_step tb hb); have n1_ := Aside0.mk (hbox); have n2_ := Aside0.mk ((by rw [hg]; exact (below_size tb) : w.heap.size ≤ gb195)); have n3_ := Aside0.mk ((by rw [hg]; exact (below_size tb) : w.heap.size ≤ gb195)); clear HB; have HB := n0_; have BK195 := n1_; have GW195 := n2_; have GE195 := n3_; clear n0_ n1_ n2_ n3_; clear hb hbox hg; have hcz3_0 : w2.cell? ⟨gb195, 0, none⟩ = some (.complex .f32 a0_0.re a0_0.im) := (blk_cell BK195.out 0).trans rfl; have hcz3_1 : w2.cell? ⟨gb195, 1, none⟩ = some (.complex .f32 a0_1.re a0_1.im) := (blk_cell BK195.out 1).trans rfl; have hcz3_2 : w2.cell? ⟨gb195, 2, none⟩ = some (.complex .f32 a0_2.re a0_2.im) := (blk_cell BK195.out 2).trans rfl; have hcz3_3 : w2.cell? ⟨gb195, 3, none⟩ = some (.slice A0_3 l0_3.length c0_3) := (blk_cell BK195.out 3).trans rfl; have hfz3_0 := blk_frozen BK195.out 0; have hfz3_1 := blk_frozen BK195.out 1; have hfz3_2 := blk_frozen BK195.out 2; have hfz3_3 := blk_frozen BK195.out 3))
 go_loopg [8] k (fun kq v8 w' => ∃ (x8_1 : Int), v8 = .int .i64 x8_1 ∧ Aside0 (impl_ValidFeeder.l0 kq l0_3 (l0_3.length : Int) x8_1 a0_0 a0_1 a0_2 l0_3 = some r) ∧ Aside0 (kq ≤ k) ∧ Aside0 (w'.heap[gb195]? = some (.cells #[.complex .f32 a0_0.re a0_0.im, .complex .f32 a0_1.re a0_1.im, .complex .f32 a0_2.re a0_2.im, (.slice A0_3 l0_3.length c0_3)] 42 (0, 0))) ∧ Aside0 (Below w.heap.size w w'))
 case atStart => exact ⟨(0), rs_, H', ⟨Nat.le_refl _⟩, ⟨by refine bu ?_; exact BK195.out⟩, ⟨tb⟩⟩
 case round =>
  clear H'
  try clear p2
  try clear c3
  try clear hcz3_0
  try clear hcz3_1
  try clear hcz3_2
  try clear hcz3_3
  try clear hfz3_0
  try clear hfz3_1
  try clear hfz3_2
  try clear hfz3_3
  obtain ⟨x8_1, rfl, HA, HK1, BK195, HB⟩ := hrel
  cases gk with
  | zero => exact absurd HA.out (by simp [impl_ValidFeeder.l0])
  | succ k1 =>
   have H := HA.out
   clear HA
   simp only [impl_ValidFeeder.l0] at H
   by_cases c4 : x8_1 < (l0_3.length : Int)
   ·rw [if_pos c4] at H
    have c4b0 : decide (x8_1 < (l0_3.length : Int)) = true := decide_eq_true c4
    clear c4
    by_cases c5 : 0 ≤ x8_1
    ·rw [if_pos c5] at H
     have c5b0 : decide (0 ≤ x8_1) = true := decide_eq_true c5
     clear c5
     by_cases c6 : x8_1 < (l0_3.length : Int)
     ·rw [if_pos c6] at H
      have c6b0 : decide (x8_1 < (l0_3.length : Int)) = true := decide_eq_true c6
      clear c6
      have HC7 := Aside0.mk H
      clear H
      have p197 : 0 ≤ (x8_1 : Int) := of_decide_eq_true (by first | (with_reducible assumption) | assumption)
      have q197 : x8_1 < (l0_3.length : Int) := of_decide_eq_true (by first | (with_reducible assumption) | assumption)
      obtain ⟨ad197, e197, hx197_0, hx197_1, hx197_2, hx197_3, hx197_4, hx197_5, hx197_6, hx197_7⟩ := at_T66 HR0_3.out x8_1 p197 q197
      cases e197
      replace hx197_0 := (HB.out.cell (World.block_lt_of_cell? w _ hx197_0)).trans hx197_0
      replace hx197_1 := (HB.out.cell (World.block_lt_of_cell? w _ hx197_1)).trans hx197_1
      replace hx197_2 := (HB.out.cell (World.block_lt_of_cell? w _ hx197_2)).trans hx197_2
      replace hx197_3 := (HB.out.cell (World.block_lt_of_cell? w _ hx197_3)).trans hx197_3
      replace hx197_4 := (HB.out.cell (World.block_lt_of_cell? w _ hx197_4)).trans hx197_4
      replace hx197_5 := (HB.out.cell (World.block_lt_of_cell? w _ hx197_5)).trans hx197_5
      replace hx197_6 := (HB.out.cell (World.block_lt_of_cell? w _ hx197_6)).trans hx197_6
      replace hx197_7 := (HB.out.cell (World.block_lt_of_cell? w _ hx197_7)).trans hx197_7
      replace p197 := eq_true p197
      replace q197 := eq_true q197
      go_upto_region 4 with (first | ((with_reducible refine gate_dst (N := 4) rfl ?_); refine box_event ?hg (N := 4) ?hd (cs := #[.int .i64 0, .complex .f32 0 0, .complex .f32 0 0, .int .i64 0, .complex .f32 0 0, .complex .f32 0 0, .complex .f32 0 0, .int .i64 0]) (t := 66) ?hr ?_; (case hd => rfl); (case hg => rfl); (case hr => first | (go_simp; done) | (go_simp; rfl)); intro gb198 hg w8 hbox hb; have n0_ := Aside0.mk (blk_below (g := gb195) (o := .cells #[.complex .f32 a0_0.re a0_0.im, .complex .f32 a0_1.re a0_1.im, .complex .f32 a0_2.re a0_2.im, .slice (some ad197) l0_3.length c0_3] 42 (0, 0)) (bu BK195.out) hb); have n1_ := Aside0.mk (below_step tb hb); have n2_ := Aside0.mk (hbox); have n3_ := Aside0.mk ((by rw [hg]; exact (below_size tb) : w.heap.size ≤ gb198)); have n4_ := Aside0.mk ((by rw [hg]; exact (below_size tb) : w.heap.size ≤ gb198)); have n5_ := Aside0.mk ((by rw [hg]; exact Nat.ne_of_lt (blk_lt (g := gb195) (o := .cells #[.complex .f32 a0_0.re a0_0.im, .complex .f32 a0_1.re a0_1.im, .complex .f32 a0_2.re a0_2.im, .slice (some ad197) l0_3.length c0_3] 42 (0, 0)) (bu BK195.out)) : gb195 ≠ gb198)); have n6_ := Aside0.mk ((by rw [hg]; exact Nat.ne_of_gt (blk_lt (g := gb195) (o := .cells #[.complex .f32 a0_0.re a0_0.im, .complex .f32 a0_1.re a0_1.im, .complex .f32 a0_2.re a0_2.im, .slice (some ad197) l0_3.length c0_3] 42 (0, 0)) (bu BK195.out)) : gb198 ≠ gb195)); clear BK195; clear HB; have BK195 := n0_; have HB := n1_; have BK198 := n2_; have GW198 := n3_; have GE198 := n4_; have NB195_198 := n5_; have NB198_195 := n6_; clear n0_ n1_ n2_ n3_ n4_ n5_ n6_; clear hb hbox hg; have hnb9 := NB198_195.out; have hnc9 := NB195_198.out; have hcz10_0 : w8.cell? ⟨gb198, 0, none⟩ = some (.int .i64 0) := (blk_cell BK198.out 0).trans rfl; have hcz10_1 : w8.cell? ⟨gb198, 1, none⟩ = some (.complex .f32 0 0) := (blk_cell BK198.out 1).trans rfl; have hcz10_2 : w8.cell? ⟨gb198, 2, none⟩ = some (.complex .f32 0 0) := (blk_cell BK198.out 2).trans rfl; have hcz10_3 : w8.cell? ⟨gb198, 3, none⟩ = some (.int .i64 0) := (blk_cell BK198.out 3).trans rfl; have hcz10_4 : w8.cell? ⟨gb198, 4, none⟩ = some (.complex .f32 0 0) := (blk_cell BK198.out 4).trans rfl; have hcz10_5 : w8.cell? ⟨gb198, 5, none⟩ = some (.complex .f32 0 0) := (blk_cell BK198.out 5).trans rfl; have hcz10_6 : w8.cell? ⟨gb198, 6, none⟩ = some (.complex .f32 0 0) := (blk_cell BK198.out 6).trans rfl; have hcz10_7 : w8.cell? ⟨gb198, 7, none⟩ = some (.int .i64 0) := (blk_cell BK198.out 7).trans rfl; have hfz10_0 := blk_frozen BK198.out 0; have hfz10_1 := blk_frozen BK198.out 1; have hfz10_2 := blk_frozen BK198.out 2; have hfz10_3 := blk_frozen BK198.out 3; have hfz10_4 := blk_frozen BK198.out 4; have hfz10_5 := blk_frozen BK198.out 5; have hfz10_6 := blk_frozen BK198.out 6; have hfz10_7 := blk_frozen BK198.out 7))
      try refine pt_ ?_
      go_cut [13] (fun v13 wc => ∃ (kq : Nat) (x13_6 : Bool), v13 = .bool x13_6 ∧ Aside0 (impl_ValidFeeder.j1 kq x8_1 l0_3 (l0_3.length : Int) x8_1 x13_6 a0_0 a0_1 a0_2 l0_3 ((rd_T66 l0_3 x8_1).f0) ((rd_T66 l0_3 x8_1).f1) ((rd_T66 l0_3 x8_1).f2) ((rd_T66 l0_3 x8_1).f3) ((rd_T66 l0_3 x8_1).f4.f0) ((rd_T66 l0_3 x8_1).f4.f1) ((rd_T66 l0_3 x8_1).f4.f2) ((rd_T66 l0_3 x8_1).f5) = some r) ∧ Aside0 (kq ≤ k1) ∧ Aside0 (wc.heap[gb195]? = some (.cells #[.complex .f32 a0_0.re a0_0.im, .complex .f32 a0_1.re a0_1.im, .complex .f32 a0_2.re a0_2.im, (.slice (some ad197) l0_3.length c0_3)] 42 (0, 0))) ∧ Aside0 (wc.heap[gb198]? = some (.cells #[.int .i64 ((rd_T66 l0_3 x8_1).f0), .complex .f32 (((rd_T66 l0_3 x8_1).f1).re) (((rd_T66 l0_3 x8_1).f1).im), .complex .f32 (((rd_T66 l0_3 x8_1).f2).re) (((rd_T66 l0_3 x8_1).f2).im), .int .i64 ((rd_T66 l0_3 x8_1).f3), .complex .f32 (((rd_T66 l0_3 x8_1).f4.f0).re) (((rd_T66 l0_3 x8_1).f4.f0).im), .complex .f32 (((rd_T66 l0_3 x8_1).f4.f1).re) (((rd_T66 l0_3 x8_1).f4.f1).im), .complex .f32 (((rd_T66 l0_3 x8_1).f4.f2).re) (((rd_T66 l0_3 x8_1).f4.f2).im), .int .i64 ((rd_T66 l0_3 x8_1).f5)] 66 (0, 0))) ∧ Aside0 (Below w.heap.size w wc))
      case first =>
       have H := HC7.out
       clear HC7
       replace H := Option.bind_eq_some_iff.mp H
       obtain ⟨t199, A110, H⟩ := H
       try dsimp only at H
       have A11 := Aside0.mk A110
       clear A110
       by_cases c12 : t199 = true
       ·subst c12
        rw [if_pos rfl] at H; try dsimp only at H
        replace H := Option.bind_eq_some_iff.mp H
        obtain ⟨t200, A130, H⟩ := H
        try dsimp only at H
        have A13 := Aside0.mk A130
        clear A130
        have H' := Aside0.mk H
        clear H
        have hnb14 := NB198_195.out
        have hnc14 := NB195_198.out
        have hcz15_0 : w8.cell? ⟨gb198, 0, none⟩ = some (.int .i64 0) := (blk_cell BK198.out 0).trans rfl
        have hcz15_1 : w8.cell? ⟨gb198, 1, none⟩ = some (.complex .f32 0 0) := (blk_cell BK198.out 1).trans rfl
        have hcz15_2 : w8.cell? ⟨gb198, 2, none⟩ = some (.complex .f32 0 0) := (blk_cell BK198.out 2).trans rfl
        have hcz15_3 : w8.cell? ⟨gb198, 3, none⟩ = some (.int .i64 0) := (blk_cell BK198.out 3).trans rfl
        have hcz15_4 : w8.cell? ⟨gb198, 4, none⟩ = some (.complex .f32 0 0) := (blk_cell BK198.out 4).trans rfl
        have hcz15_5 : w8.cell? ⟨gb198, 5, none⟩ = some (.complex .f32 0 0) := (blk_cell BK198.out 5).trans rfl
        have hcz15_6 : w8.cell? ⟨gb198, 6, none⟩ = some (.complex .f32 0 0) := (blk_cell BK198.out 6).trans rfl
        have hcz15_7 : w8.cell? ⟨gb198, 7, none⟩ = some (.int .i64 0) := (blk_cell BK198.out 7).trans rfl
        have hfz15_0 := blk_frozen BK198.out 0
        have hfz15_1 := blk_frozen BK198.out 1
        have hfz15_2 := blk_frozen BK198.out 2
        have hfz15_3 := blk_frozen BK198.out 3
        have hfz15_4 := blk_frozen BK198.out 4
        have hfz15_5 := blk_frozen BK198.out 5
        have hfz15_6 := blk_frozen BK198.out 6
        have hfz15_7 := blk_frozen BK198.out 7
        go_wp2_with (first | ((with_reducible refine gate_callee (f := 97) rfl ?_); refine gx_ (some 16) Try.func97 #[.int .i64 ((rd_T66 l0_3 x8_1).f3)] ?_; (with_reducible refine (impl_kindOk.calls ((rd_T66 l0_3 x8_1).f3) true _ A11.out).mono ?_); rintro e w' ⟨rfl, ⟨nd, rfl⟩⟩; refine ⟨_, rfl, ?_⟩) | (go_at_call 88; (with_reducible refine (impl_in.calls ((rd_T66 l0_3 x8_1).f5) 0 1000000 t200 _ A13.out).mono ?_); rintro e w' ⟨rfl, ⟨nd, rfl⟩⟩))
        go_meet
        case rel => exact ⟨_, (!t200), rs_, H', ⟨by have := HK1.out; exact om_⟩, ⟨by refine bv ?_; exact BK195.out⟩, ⟨by refine bu ?_; refine blk_put (cs := #[.int .i64 ((rd_T66 l0_3 x8_1).f0), .complex .f32 (((rd_T66 l0_3 x8_1).f1).re) (((rd_T66 l0_3 x8_1).f1).im), .complex .f32 (((rd_T66 l0_3 x8_1).f2).re) (((rd_T66 l0_3 x8_1).f2).im), .int .i64 ((rd_T66 l0_3 x8_1).f3), .complex .f32 (((rd_T66 l0_3 x8_1).f4.f0).re) (((rd_T66 l0_3 x8_1).f4.f0).im), .complex .f32 (((rd_T66 l0_3 x8_1).f4.f1).re) (((rd_T66 l0_3 x8_1).f4.f1).im), .complex .f32 (((rd_T66 l0_3 x8_1).f4.f2).re) (((rd_T66 l0_3 x8_1).f4.f2).im), .int .i64 0]) ?_ 7 _ rfl; refine bu ?_; refine blk_put (cs := #[.int .i64 ((rd_T66 l0_3 x8_1).f0), .complex .f32 (((rd_T66 l0_3 x8_1).f1).re) (((rd_T66 l0_3 x8_1).f1).im), .complex .f32 (((rd_T66 l0_3 x8_1).f2).re) (((rd_T66 l0_3 x8_1).f2).im), .int .i64 ((rd_T66 l0_3 x8_1).f3), .complex .f32 (((rd_T66 l0_3 x8_1).f4.f0).re) (((rd_T66 l0_3 x8_1).f4.f0).im), .complex .f32 (((rd_T66 l0_3 x8_1).f4.f1).re) (((rd_T66 l0_3 x8_1).f4.f1).im), .complex .f32 0 0, .int .i64 0]) ?_ 6 _ rfl; refine bu ?_; refine blk_put (cs := #[.int .i64 ((rd_T66 l0_3 x8_1).f0), .complex .f32 (((rd_T66 l0_3 x8_1).f1).re) (((rd_T66 l0_3 x8_1).f1).im), .complex .f32 (((rd_T66 l0_3 x8_1).f2).re) (((rd_T66 l0_3 x8_1).f2).im), .int .i64 ((rd_T66 l0_3 x8_1).f3), .complex .f32 (((rd_T66 l0_3 x8_1).f4.f0).re) (((rd_T66 l0_3 x8_1).f4.f0).im), .complex .f32 0 0, .complex .f32 0 0, .int .i64 0]) ?_ 5 _ rfl; refine bu ?_; refine blk_put (cs := #[.int .i64 ((rd_T66 l0_3 x8_1).f0), .complex .f32 (((rd_T66 l0_3 x8_1).f1).re) (((rd_T66 l0_3 x8_1).f1).im), .complex .f32 (((rd_T66 l0_3 x8_1).f2).re) (((rd_T66 l0_3 x8_1).f2).im), .int .i64 ((rd_T66 l0_3 x8_1).f3), .complex .f32 0 0, .complex .f32 0 0, .complex .f32 0 0, .int .i64 0]) ?_ 4 _ rfl; refine bu ?_; refine blk_put (cs := #[.int .i64 ((rd_T66 l0_3 x8_1).f0), .complex .f32 (((rd_T66 l0_3 x8_1).f1).re) (((rd_T66 l0_3 x8_1).f1).im), .complex .f32 (((rd_T66 l0_3 x8_1).f2).re) (((rd_T66 l0_3 x8_1).f2).im), .int .i64 0, .complex .f32 0 0, .complex .f32 0 0, .complex .f32 0 0, .int .i64 0]) ?_ 3 _ rfl; refine bu ?_; refine blk_put (cs := #[.int .i64 ((rd_T66 l0_3 x8_1).f0), .complex .f32 (((rd_T66 l0_3 x8_1).f1).re) (((rd_T66 l0_3 x8_1).f1).im), .complex .f32 0 0, .int .i64 0, .complex .f32 0 0, .complex .f32 0 0, .complex .f32 0 0, .int .i64 0]) ?_ 2 _ rfl; refine bu ?_; refine blk_put (cs := #[.int .i64 ((rd_T66 l0_3 x8_1).f0), .complex .f32 0 0, .complex .f32 0 0, .int .i64 0, .complex .f32 0 0, .complex .f32 0 0, .complex .f32 0 0, .int .i64 0]) ?_ 1 _ rfl; refine bu ?_; refine blk_put (cs := #[.int .i64 0, .complex .f32 0 0, .complex .f32 0 0, .int .i64 0, .complex .f32 0 0, .complex .f32 0 0, .complex .f32 0 0, .int .i64 0]) ?_ 0 _ rfl; refine bu ?_; exact BK198.out⟩, ⟨tb⟩⟩
       ·replace c12 := Bool.eq_false_iff.mpr c12
        subst c12
        have H1 : (impl_ValidFeeder.j1 k1 x8_1 l0_3 (l0_3.length : Int) x8_1 true a0_0 a0_1 a0_2 l0_3 ((rd_T66 l0_3 x8_1).f0) ((rd_T66 l0_3 x8_1).f1) ((rd_T66 l0_3 x8_1).f2) ((rd_T66 l0_3 x8_1).f3) ((rd_T66 l0_3 x8_1).f4.f0) ((rd_T66 l0_3 x8_1).f4.f1) ((rd_T66 l0_3 x8_1).f4.f2) ((rd_T66 l0_3 x8_1).f5)) = some r := by rw [if_neg (show ¬ (false = true) by decide)] at H; exact H
        clear H
        have H := H1
        clear H1
        have H' := Aside0.mk H
        clear H
        have hnb16 := NB198_195.out
        have hnc16 := NB195_198.out
        have hcz17_0 : w8.cell? ⟨gb198, 0, none⟩ = some (.int .i64 0) := (blk_cell BK198.out 0).trans rfl
        have hcz17_1 : w8.cell? ⟨gb198, 1, none⟩ = some (.complex .f32 0 0) := (blk_cell BK198.out 1).trans rfl
        have hcz17_2 : w8.cell? ⟨gb198, 2, none⟩ = some (.complex .f32 0 0) := (blk_cell BK198.out 2).trans rfl
        have hcz17_3 : w8.cell? ⟨gb198, 3, none⟩ = some (.int .i64 0) := (blk_cell BK198.out 3).trans rfl
        have hcz17_4 : w8.cell? ⟨gb198, 4, none⟩ = some (.complex .f32 0 0) := (blk_cell BK198.out 4).trans rfl
        have hcz17_5 : w8.cell? ⟨gb198, 5, none⟩ = some (.complex .f32 0 0) := (blk_cell BK198.out 5).trans rfl
        have hcz17_6 : w8.cell? ⟨gb198, 6, none⟩ = some (.complex .f32 0 0) := (blk_cell BK198.out 6).trans rfl
        have hcz17_7 : w8.cell? ⟨gb198, 7, none⟩ = some (.int .i64 0) := (blk_cell BK198.out 7).trans rfl
        have hfz17_0 := blk_frozen BK198.out 0
        have hfz17_1 := blk_frozen BK198.out 1
        have hfz17_2 := blk_frozen BK198.out 2
        have hfz17_3 := blk_frozen BK198.out 3
        have hfz17_4 := blk_frozen BK198.out 4
        have hfz17_5 := blk_frozen BK198.out 5
        have hfz17_6 := blk_frozen BK198.out 6
        have hfz17_7 := blk_frozen BK198.out 7
        go_wp2_with (first | ((with_reducible refine gate_callee (f := 97) rfl ?_); refine gx_ (some 16) Try.func97 #[.int .i64 ((rd_T66 l0_3 x8_1).f3)] ?_; (with_reducible refine (impl_kindOk.calls ((rd_T66 l0_3 x8_1).f3) false _ A11.out).mono ?_); rintro e w' ⟨rfl, ⟨nd, rfl⟩⟩; refine ⟨_, rfl, ?_⟩))
        go_meet
        case rel => exact ⟨_, (true), rs_, H', ⟨by have := HK1.out; exact om_⟩, ⟨by refine bv ?_; exact BK195.out⟩, ⟨by refine bu ?_; refine blk_put (cs := #[.int .i64 ((rd_T66 l0_3 x8_1).f0), .complex .f32 (((rd_T66 l0_3 x8_1).f1).re) (((rd_T66 l0_3 x8_1).f1).im), .complex .f32 (((rd_T66 l0_3 x8_1).f2).re) (((rd_T66 l0_3 x8_1).f2).im), .int .i64 ((rd_T66 l0_3 x8_1).f3), .complex .f32 (((rd_T66 l0_3 x8_1).f4.f0).re) (((rd_T66 l0_3 x8_1).f4.f0).im), .complex .f32 (((rd_T66 l0_3 x8_1).f4.f1).re) (((rd_T66 l0_3 x8_1).f4.f1).im), .complex .f32 (((rd_T66 l0_3 x8_1).f4.f2).re) (((rd_T66 l0_3 x8_1).f4.f2).im), .int .i64 0]) ?_ 7 _ rfl; refine bu ?_; refine blk_put (cs := #[.int .i64 ((rd_T66 l0_3 x8_1).f0), .complex .f32 (((rd_T66 l0_3 x8_1).f1).re) (((rd_T66 l0_3 x8_1).f1).im), .complex .f32 (((rd_T66 l0_3 x8_1).f2).re) (((rd_T66 l0_3 x8_1).f2).im), .int .i64 ((rd_T66 l0_3 x8_1).f3), .complex .f32 (((rd_T66 l0_3 x8_1).f4.f0).re) (((rd_T66 l0_3 x8_1).f4.f0).im), .complex .f32 (((rd_T66 l0_3 x8_1).f4.f1).re) (((rd_T66 l0_3 x8_1).f4.f1).im), .complex .f32 0 0, .int .i64 0]) ?_ 6 _ rfl; refine bu ?_; refine blk_put (cs := #[.int .i64 ((rd_T66 l0_3 x8_1).f0), .complex .f32 (((rd_T66 l0_3 x8_1).f1).re) (((rd_T66 l0_3 x8_1).f1).im), .complex .f32 (((rd_T66 l0_3 x8_1).f2).re) (((rd_T66 l0_3 x8_1).f2).im), .int .i64 ((rd_T66 l0_3 x8_1).f3), .complex .f32 (((rd_T66 l0_3 x8_1).f4.f0).re) (((rd_T66 l0_3 x8_1).f4.f0).im), .complex .f32 0 0, .complex .f32 0 0, .int .i64 0]) ?_ 5 _ rfl; refine bu ?_; refine blk_put (cs := #[.int .i64 ((rd_T66 l0_3 x8_1).f0), .complex .f32 (((rd_T66 l0_3 x8_1).f1).re) (((rd_T66 l0_3 x8_1).f1).im), .complex .f32 (((rd_T66 l0_3 x8_1).f2).re) (((rd_T66 l0_3 x8_1).f2).im), .int .i64 ((rd_T66 l0_3 x8_1).f3), .complex .f32 0 0, .complex .f32 0 0, .complex .f32 0 0, .int .i64 0]) ?_ 4 _ rfl; refine bu ?_; refine blk_put (cs := #[.int .i64 ((rd_T66 l0_3 x8_1).f0), .complex .f32 (((rd_T66 l0_3 x8_1).f1).re) (((rd_T66 l0_3 x8_1).f1).im), .complex .f32 (((rd_T66 l0_3 x8_1).f2).re) (((rd_T66 l0_3 x8_1).f2).im), .int .i64 0, .complex .f32 0 0, .complex .f32 0 0, .complex .f32 0 0, .int .i64 0]) ?_ 3 _ rfl; refine bu ?_; refine blk_put (cs := #[.int .i64 ((rd_T66 l0_3 x8_1).f0), .complex .f32 (((rd_T66 l0_3 x8_1).f1).re) (((rd_T66 l0_3 x8_1).f1).im), .complex .f32 0 0, .int .i64 0, .complex .f32 0 0, .complex .f32 0 0, .complex .f32 0 0, .int .i64 0]) ?_ 2 _ rfl; refine bu ?_; refine blk_put (cs := #[.int .i64 ((rd_T66 l0_3 x8_1).f0), .complex .f32 0 0, .complex .f32 0 0, .int .i64 0, .complex .f32 0 0, .complex .f32 0 0, .complex .f32 0 0, .int .i64 0]) ?_ 1 _ rfl; refine bu ?_; refine blk_put (cs := #[.int .i64 0, .complex .f32 0 0, .complex .f32 0 0, .int .i64 0, .complex .f32 0 0, .complex .f32 0 0, .complex .f32 0 0, .int .i64 0]) ?_ 0 _ rfl; refine bu ?_; exact BK198.out⟩, ⟨tb⟩⟩
      case rest =>
       clear HC7
       try clear c1
       try clear p1
       try clear q1
       try clear hx1
       try clear p2
       try clear c3
       try clear c4
       try clear c4b0
       try clear c5
       try clear c5b0
       try clear c6
       try clear c6b0
       try clear c9
       try clear c12
       try clear c14
       try clear c16
       try clear hcz10_0
       try clear hcz10_1
       try clear hcz10_2
       try clear hcz10_3
       try clear hcz10_4
       try clear hcz10_5
       try clear hcz10_6
       try clear hcz10_7
       try clear hcz15_0
       try clear hcz15_1
       try clear hcz15_2
       try clear hcz15_3
       try clear hcz15_4
       try clear hcz15_5
       try clear hcz15_6
       try clear hcz15_7
       try clear hcz17_0
       try clear hcz17_1
       try clear hcz17_2
       try clear hcz17_3
       try clear hcz17_4
       try clear hcz17_5
       try clear hcz17_6
       try clear hcz17_7
       try clear hcz3_0
       try clear hcz3_1
       try clear hcz3_2
       try clear hcz3_3
       try clear hfz10_0
       try clear hfz10_1
       try clear hfz10_2
       try clear hfz10_3
       try clear hfz10_4
       try clear hfz10_5
       try clear hfz10_6
       try clear hfz10_7
       try clear hfz15_0
       try clear hfz15_1
       try clear hfz15_2
       try clear hfz15_3
       try clear hfz15_4
       try clear hfz15_5
       try clear hfz15_6
       try clear hfz15_7
       try clear hfz17_0
       try clear hfz17_1
       try clear hfz17_2
       try clear hfz17_3
       try clear hfz17_4
       try clear hfz17_5
       try clear hfz17_6
       try clear hfz17_7
       try clear hfz3_0
       try clear hfz3_1
       try clear hfz3_2
       try clear hfz3_3
       try clear hx197_0
       try clear hx197_1
       try clear hx197_2
       try clear hx197_3
       try clear hx197_4
       try clear hx197_5
       try clear hx197_6
       try clear hx197_7
       try clear p197
       try clear p2
       try clear q197
       obtain ⟨kq, x13_6, rfl, HA, HJ6, BK195, BK198, HB⟩ := hcut
       cases kq with
       | zero => exact absurd HA.out (by simp [impl_ValidFeeder.j1])
       | succ kj6 =>
        have H := HA.out
        clear HA
        simp only [impl_ValidFeeder.j1] at H
        by_cases c18 : x13_6 = true
        ·subst c18
         rw [if_pos rfl] at H; try dsimp only at H
         obtain rfl := Option.some.inj H
         go_wp2
         go_ret
         exact ⟨re_, tb⟩
        ·replace c18 := Bool.eq_false_iff.mpr c18
         subst c18
         have H1 : (if x8_1 = 0 then (if ((rd_T66 l0_3 x8_1).f0) = (-1) then (if (cne .f32 ((rd_T66 l0_3 x8_1).f1).re ((rd_T66 l0_3 x8_1).f1).im 0 0) = true then (impl_ValidFeeder.j2 kj6 x8_1 l0_3 (l0_3.length : Int) x8_1 true a0_0 a0_1 a0_2 l0_3 ((rd_T66 l0_3 x8_1).f0) ((rd_T66 l0_3 x8_1).f1) ((rd_T66 l0_3 x8_1).f2) ((rd_T66 l0_3 x8_1).f3) ((rd_T66 l0_3 x8_1).f4.f0) ((rd_T66 l0_3 x8_1).f4.f1) ((rd_T66 l0_3 x8_1).f4.f2) ((rd_T66 l0_3 x8_1).f5)) else (impl_ValidFeeder.j2 kj6 x8_1 l0_3 (l0_3.length : Int) x8_1 (cne .f32 ((rd_T66 l0_3 x8_1).f2).re ((rd_T66 l0_3 x8_1).f2).im 0 0) a0_0 a0_1 a0_2 l0_3 ((rd_T66 l0_3 x8_1).f0) ((rd_T66 l0_3 x8_1).f1) ((rd_T66 l0_3 x8_1).f2) ((rd_T66 l0_3 x8_1).f3) ((rd_T66 l0_3 x8_1).f4.f0) ((rd_T66 l0_3 x8_1).f4.f1) ((rd_T66 l0_3 x8_1).f4.f2) ((rd_T66 l0_3 x8_1).f5))) else (impl_ValidFeeder.j2 kj6 x8_1 l0_3 (l0_3.length : Int) x8_1 true a0_0 a0_1 a0_2 l0_3 ((rd_T66 l0_3 x8_1).f0) ((rd_T66 l0_3 x8_1).f1) ((rd_T66 l0_3 x8_1).f2) ((rd_T66 l0_3 x8_1).f3) ((rd_T66 l0_3 x8_1).f4.f0) ((rd_T66 l0_3 x8_1).f4.f1) ((rd_T66 l0_3 x8_1).f4.f2) ((rd_T66 l0_3 x8_1).f5))) else (impl_ValidFeeder.j2 kj6 x8_1 l0_3 (l0_3.length : Int) x8_1 false a0_0 a0_1 a0_2 l0_3 ((rd_T66 l0_3 x8_1).f0) ((rd_T66 l0_3 x8_1).f1) ((rd_T66 l0_3 x8_1).f2) ((rd_T66 l0_3 x8_1).f3) ((rd_T66 l0_3 x8_1).f4.f0) ((rd_T66 l0_3 x8_1).f4.f1) ((rd_T66 l0_3 x8_1).f4.f2) ((rd_T66 l0_3 x8_1).f5))) = some r := by rw [if_neg (show ¬ (false = true) by decide)] at H; exact H
         clear H
         have H := H1
         clear H1
         have HC19 := Aside0.mk H
         clear H
         go_upto_region 6 with (fail)
         go_cut [24] (fun v24 wc => ∃ (kq : Nat) (x24_18 : Bool), v24 = .bool x24_18 ∧ Aside0 (impl_ValidFeeder.j2 kq x8_1 l0_3 (l0_3.length : Int) x8_1 x24_18 a0_0 a0_1 a0_2 l0_3 ((rd_T66 l0_3 x8_1).f0) ((rd_T66 l0_3 x8_1).f1) ((rd_T66 l0_3 x8_1).f2) ((rd_T66 l0_3 x8_1).f3) ((rd_T66 l0_3 x8_1).f4.f0) ((rd_T66 l0_3 x8_1).f4.f1) ((rd_T66 l0_3 x8_1).f4.f2) ((rd_T66 l0_3 x8_1).f5) = some r) ∧ Aside0 (kq ≤ kj6) ∧ Aside0 (wc.heap[gb195]? = some (.cells #[.complex .f32 a0_0.re a0_0.im, .complex .f32 a0_1.re a0_1.im, .complex .f32 a0_2.re a0_2.im, (.slice (some ad197) l0_3.length c0_3)] 42 (0, 0))) ∧ Aside0 (wc.heap[gb198]? = some (.cells #[.int .i64 ((rd_T66 l0_3 x8_1).f0), .complex .f32 (((rd_T66 l0_3 x8_1).f1).re) (((rd_T66 l0_3 x8_1).f1).im), .complex .f32 (((rd_T66 l0_3 x8_1).f2).re) (((rd_T66 l0_3 x8_1).f2).im), .int .i64 ((rd_T66 l0_3 x8_1).f3), .complex .f32 (((rd_T66 l0_3 x8_1).f4.f0).re) (((rd_T66 l0_3 x8_1).f4.f0).im), .complex .f32 (((rd_T66 l0_3 x8_1).f4.f1).re) (((rd_T66 l0_3 x8_1).f4.f1).im), .complex .f32 (((rd_T66 l0_3 x8_1).f4.f2).re) (((rd_T66 l0_3 x8_1).f4.f2).im), .int .i64 ((rd_T66 l0_3 x8_1).f5)] 66 (0, 0))) ∧ Aside0 (Below w.heap.size w wc))
         case first =>
          have H := HC19.out
          clear HC19
          by_cases c20 : x8_1 = 0
          ·rw [if_pos c20] at H
           have c20b0 : (x8_1 == 0) = true := beq_iff_eq.mpr c20
           have c20b1 : (x8_1 != 0) = false := bne_eq_false_iff_eq.mpr c20
           clear c20
           (first | rw [c20b0] | (simp only [i64_w, i32_w]; rw [c20b0]) | skip)
           by_cases c21 : ((rd_T66 l0_3 x8_1).f0) = (-1)
           ·rw [if_pos c21] at H
            have c21b0 : (((rd_T66 l0_3 x8_1).f0) == (-1)) = true := beq_iff_eq.mpr c21
            have c21b1 : (((rd_T66 l0_3 x8_1).f0) != (-1)) = false := bne_eq_false_iff_eq.mpr c21
            clear c21
            by_cases c22 : (cne .f32 ((rd_T66 l0_3 x8_1).f1).re ((rd_T66 l0_3 x8_1).f1).im 0 0) = true
            ·rw [if_pos c22] at H
             have c22b0 : (cne .f32 ((rd_T66 l0_3 x8_1).f1).re ((rd_T66 l0_3 x8_1).f1).im 0 0) = true := c22
             clear c22
             have H' := Aside0.mk H
             clear H
             have hnb23 := NB198_195.out
             have hnc23 := NB195_198.out
             have hcz24_0 : wc.cell? ⟨gb198, 0, none⟩ = some (.int .i64 ((rd_T66 l0_3 x8_1).f0)) := (blk_cell BK198.out 0).trans rfl
             have hcz24_1 : wc.cell? ⟨gb198, 1, none⟩ = some (.complex .f32 (((rd_T66 l0_3 x8_1).f1).re) (((rd_T66 l0_3 x8_1).f1).im)) := (blk_cell BK198.out 1).trans rfl
             have hcz24_2 : wc.cell? ⟨gb198, 2, none⟩ = some (.complex .f32 (((rd_T66 l0_3 x8_1).f2).re) (((rd_T66 l0_3 x8_1).f2).im)) := (blk_cell BK198.out 2).trans rfl
             have hcz24_3 : wc.cell? ⟨gb198, 3, none⟩ = some (.int .i64 ((rd_T66 l0_3 x8_1).f3)) := (blk_cell BK198.out 3).trans rfl
             have hcz24_4 : wc.cell? ⟨gb198, 4, none⟩ = some (.complex .f32 (((rd_T66 l0_3 x8_1).f4.f0).re) (((rd_T66 l0_3 x8_1).f4.f0).im)) := (blk_cell BK198.out 4).trans rfl
             have hcz24_5 : wc.cell? ⟨gb198, 5, none⟩ = some (.complex .f32 (((rd_T66 l0_3 x8_1).f4.f1).re) (((rd_T66 l0_3 x8_1).f4.f1).im)) := (blk_cell BK198.out 5).trans rfl
             have hcz24_6 : wc.cell? ⟨gb198, 6, none⟩ = some (.complex .f32 (((rd_T66 l0_3 x8_1).f4.f2).re) (((rd_T66 l0_3 x8_1).f4.f2).im)) := (blk_cell BK198.out 6).trans rfl
             have hcz24_7 : wc.cell? ⟨gb198, 7, none⟩ = some (.int .i64 ((rd_T66 l0_3 x8_1).f5)) := (blk_cell BK198.out 7).trans rfl
             have hfz24_0 := blk_frozen BK198.out 0
             have hfz24_1 := blk_frozen BK198.out 1
             have hfz24_2 := blk_frozen BK198.out 2
             have hfz24_3 := blk_frozen BK198.out 3
             have hfz24_4 := blk_frozen BK198.out 4
             have hfz24_5 := blk_frozen BK198.out 5
             have hfz24_6 := blk_frozen BK198.out 6
             have hfz24_7 := blk_frozen BK198.out 7
             go_wp2
             go_meet
             case rel => exact ⟨_, (true), rs_, H', ⟨by have := HK1.out; have := HJ6.out; exact om_⟩, ⟨by refine bu ?_; exact BK195.out⟩, ⟨by refine bu ?_; exact BK198.out⟩, ⟨tb⟩⟩
            ·rw [if_neg c22] at H
             have c22b0 : (cne .f32 ((rd_T66 l0_3 x8_1).f1).re ((rd_T66 l0_3 x8_1).f1).im 0 0) = false := by simpa using c22
             clear c22
             have H' := Aside0.mk H
             clear H
             have hnb25 := NB198_195.out
             have hnc25 := NB195_198.out
             have hcz26_0 : wc.cell? ⟨gb198, 0, none⟩ = some (.int .i64 ((rd_T66 l0_3 x8_1).f0)) := (blk_cell BK198.out 0).trans rfl
             have hcz26_1 : wc.cell? ⟨gb198, 1, none⟩ = some (.complex .f32 (((rd_T66 l0_3 x8_1).f1).re) (((rd_T66 l0_3 x8_1).f1).im)) := (blk_cell BK198.out 1).trans rfl
             have hcz26_2 : wc.cell? ⟨gb198, 2, none⟩ = some (.complex .f32 (((rd_T66 l0_3 x8_1).f2).re) (((rd_T66 l0_3 x8_1).f2).im)) := (blk_cell BK198.out 2).trans rfl
             have hcz26_3 : wc.cell? ⟨gb198, 3, none⟩ = some (.int .i64 ((rd_T66 l0_3 x8_1).f3)) := (blk_cell BK198.out 3).trans rfl
             have hcz26_4 : wc.cell? ⟨gb198, 4, none⟩ = some (.complex .f32 (((rd_T66 l0_3 x8_1).f4.f0).re) (((rd_T66 l0_3 x8_1).f4.f0).im)) := (blk_cell BK198.out 4).trans rfl
             have hcz26_5 : wc.cell? ⟨gb198, 5, none⟩ = some (.complex .f32 (((rd_T66 l0_3 x8_1).f4.f1).re) (((rd_T66 l0_3 x8_1).f4.f1).im)) := (blk_cell BK198.out 5).trans rfl
             have hcz26_6 : wc.cell? ⟨gb198, 6, none⟩ = some (.complex .f32 (((rd_T66 l0_3 x8_1).f4.f2).re) (((rd_T66 l0_3 x8_1).f4.f2).im)) := (blk_cell BK198.out 6).trans rfl
             have hcz26_7 : wc.cell? ⟨gb198, 7, none⟩ = some (.int .i64 ((rd_T66 l0_3 x8_1).f5)) := (blk_cell BK198.out 7).trans rfl
             have hfz26_0 := blk_frozen BK198.out 0
             have hfz26_1 := blk_frozen BK198.out 1
             have hfz26_2 := blk_frozen BK198.out 2
             have hfz26_3 := blk_frozen BK198.out 3
             have hfz26_4 := blk_frozen BK198.out 4
             have hfz26_5 := blk_frozen BK198.out 5
             have hfz26_6 := blk_frozen BK198.out 6
             have hfz26_7 := blk_frozen BK198.out 7
             go_wp2
             go_meet
             case rel => exact ⟨_, ((cne .f32 ((rd_T66 l0_3 x8_1).f2).re ((rd_T66 l0_3 x8_1).f2).im 0 0)), rs_, H', ⟨by have := HK1.out; have := HJ6.out; exact om_⟩, ⟨by refine bu ?_; exact BK195.out⟩, ⟨by refine bu ?_; exact BK198.out⟩, ⟨tb⟩⟩
           ·rw [if_neg c21] at H
            have c21b0 : (((rd_T66 l0_3 x8_1).f0) == (-1)) = false := beq_eq_false_iff_ne.mpr c21
            have c21b1 : (((rd_T66 l0_3 x8_1).f0) != (-1)) = true := bne_iff_ne.mpr c21
            have H' := Aside0.mk H
            clear H
            have hnb27 := NB198_195.out
            have hnc27 := NB195_198.out
            have hcz28_0 : wc.cell? ⟨gb198, 0, none⟩ = some (.int .i64 ((rd_T66 l0_3 x8_1).f0)) := (blk_cell BK198.out 0).trans rfl
            have hcz28_1 : wc.cell? ⟨gb198, 1, none⟩ = some (.complex .f32 (((rd_T66 l0_3 x8_1).f1).re) (((rd_T66 l0_3 x8_1).f1).im)) := (blk_cell BK198.out 1).trans rfl
            have hcz28_2 : wc.cell? ⟨gb198, 2, none⟩ = some (.complex .f32 (((rd_T66 l0_3 x8_1).f2).re) (((rd_T66 l0_3 x8_1).f2).im)) := (blk_cell BK198.out 2).trans rfl
            have hcz28_3 : wc.cell? ⟨gb198, 3, none⟩ = some (.int .i64 ((rd_T66 l0_3 x8_1).f3)) := (blk_cell BK198.out 3).trans rfl
            have hcz28_4 : wc.cell? ⟨gb198, 4, none⟩ = some (.complex .f32 (((rd_T66 l0_3 x8_1).f4.f0).re) (((rd_T66 l0_3 x8_1).f4.f0).im)) := (blk_cell BK198.out 4).trans rfl
            have hcz28_5 : wc.cell? ⟨gb198, 5, none⟩ = some (.complex .f32 (((rd_T66 l0_3 x8_1).f4.f1).re) (((rd_T66 l0_3 x8_1).f4.f1).im)) := (blk_cell BK198.out 5).trans rfl
            have hcz28_6 : wc.cell? ⟨gb198, 6, none⟩ = some (.complex .f32 (((rd_T66 l0_3 x8_1).f4.f2).re) (((rd_T66 l0_3 x8_1).f4.f2).im)) := (blk_cell BK198.out 6).trans rfl
            have hcz28_7 : wc.cell? ⟨gb198, 7, none⟩ = some (.int .i64 ((rd_T66 l0_3 x8_1).f5)) := (blk_cell BK198.out 7).trans rfl
            have hfz28_0 := blk_frozen BK198.out 0
            have hfz28_1 := blk_frozen BK198.out 1
            have hfz28_2 := blk_frozen BK198.out 2
            have hfz28_3 := blk_frozen BK198.out 3
            have hfz28_4 := blk_frozen BK198.out 4
            have hfz28_5 := blk_frozen BK198.out 5
            have hfz28_6 := blk_frozen BK198.out 6
            have hfz28_7 := blk_frozen BK198.out 7
            go_wp2
            go_meet
            case rel => exact ⟨_, (true), rs_, H', ⟨by have := HK1.out; have := HJ6.out; exact om_⟩, ⟨by refine bu ?_; exact BK195.out⟩, ⟨by refine bu ?_; exact BK198.out⟩, ⟨tb⟩⟩
          ·rw [if_neg c20] at H
           have c20b0 : (x8_1 == 0) = false := beq_eq_false_iff_ne.mpr c20
           have c20b1 : (x8_1 != 0) = true := bne_iff_ne.mpr c20
           (first | rw [c20b0] | (simp only [i64_w, i32_w]; rw [c20b0]) | skip)
           have H' := Aside0.mk H
           clear H
           go_wp2
           go_meet
           case rel => exact ⟨_, (false), rs_, H', ⟨by have := HK1.out; have := HJ6.out; exact om_⟩, ⟨by refine bu ?_; exact BK195.out⟩, ⟨by refine bu ?_; exact BK198.out⟩, ⟨tb⟩⟩
         case rest =>
          clear HC19
          try clear c1
          try clear p1
          try clear q1
          try clear hx1
          try clear c2
          try clear p2
          try clear c3
          try clear c4
          try clear c4b0
          try clear c5
          try clear c5b0
          try clear c6
          try clear c6b0
          try clear c9
          try clear c12
          try clear c14
          try clear c16
          try clear c18
          try clear p19
          try clear q19
          try clear hx19
          try clear c20
          try clear c20b0
          try clear c20b1
          try clear c21
          try clear c21b0
          try clear c21b1
          try clear c22
          try clear c22b0
          try clear c23
          try clear c25
          try clear c27
          try clear hcz10_0
          try clear hcz10_1
          try clear hcz10_2
          try clear hcz10_3
          try clear hcz10_4
          try clear hcz10_5
          try clear hcz10_6
          try clear hcz10_7
          try clear hcz15_0
          try clear hcz15_1
          try clear hcz15_2
          try clear hcz15_3
          try clear hcz15_4
          try clear hcz15_5
          try clear hcz15_6
          try clear hcz15_7
          try clear hcz17_0
          try clear hcz17_1
          try clear hcz17_2
          try clear hcz17_3
          try clear hcz17_4
          try clear hcz17_5
          try clear hcz17_6
          try clear hcz17_7
          try clear hcz24_0
          try clear hcz24_1
          try clear hcz24_2
          try clear hcz24_3
          try clear hcz24_4
          try clear hcz24_5
          try clear hcz24_6
          try clear hcz24_7
          try clear hcz26_0
          try clear hcz26_1
          try clear hcz26_2
          try clear hcz26_3
          try clear hcz26_4
          try clear hcz26_5
          try clear hcz26_6
          try clear hcz26_7
          try clear hcz28_0
          try clear hcz28_1
          try clear hcz28_2
          try clear hcz28_3
          try clear hcz28_4
          try clear hcz28_5
          try clear hcz28_6
          try clear hcz28_7
          try clear hcz3_0
          try clear hcz3_1
          try clear hcz3_2
          try clear hcz3_3
          try clear hfz10_0
          try clear hfz10_1
          try clear hfz10_2
          try clear hfz10_3
          try clear hfz10_4
          try clear hfz10_5
          try clear hfz10_6
          try clear hfz10_7
          try clear hfz15_0
          try clear hfz15_1
          try clear hfz15_2
          try clear hfz15_3
          try clear hfz15_4
          try clear hfz15_5
          try clear hfz15_6
          try clear hfz15_7
          try clear hfz17_0
          try clear hfz17_1
          try clear hfz17_2
          try clear hfz17_3
          try clear hfz17_4
          try clear hfz17_5
          try clear hfz17_6
          try clear hfz17_7
          try clear hfz24_0
          try clear hfz24_1
          try clear hfz24_2
          try clear hfz24_3
          try clear hfz24_4
          try clear hfz24_5
          try clear hfz24_6
          try clear hfz24_7
          try clear hfz26_0
          try clear hfz26_1
          try clear hfz26_2
          try clear hfz26_3
          try clear hfz26_4
          try clear hfz26_5
          try clear hfz26_6
          try clear hfz26_7
          try clear hfz28_0
          try clear hfz28_1
          try clear hfz28_2
          try clear hfz28_3
          try clear hfz28_4
          try clear hfz28_5
          try clear hfz28_6
          try clear hfz28_7
          try clear hfz3_0
          try clear hfz3_1
          try clear hfz3_2
          try clear hfz3_3
          try clear hx197_0
          try clear hx197_1
          try clear hx197_2
          try clear hx197_3
          try clear hx197_4
          try clear hx197_5
          try clear hx197_6
          try clear hx197_7
          try clear p1
          try clear p197
          try clear p2
          try clear q1
          try clear q197
          obtain ⟨kq, x24_18, rfl, HA, HJ18, BK195, BK198, HB⟩ := hcut
          cases kq with
          | zero => exact absurd HA.out (by simp [impl_ValidFeeder.j2])
          | succ kj18 =>
           have H := HA.out
           clear HA
           simp only [impl_ValidFeeder.j2] at H
           by_cases c29 : x24_18 = true
           ·subst c29
            rw [if_pos rfl] at H; try dsimp only at H
            obtain rfl := Option.some.inj H
            go_wp2
            go_ret
            exact ⟨re_, tb⟩
           ·replace c29 := Bool.eq_false_iff.mpr c29
            subst c29
            have H1 : (if x8_1 > 0 then ((impl_in.f ((rd_T66 l0_3 x8_1).f0) 0 (wrap64 (x8_1 - 1))).bind fun t201 => (if t201 = true then (impl_ValidFeeder.l0 kj18 l0_3 (l0_3.length : Int) (wrap64 (x8_1 + 1)) a0_0 a0_1 a0_2 l0_3) else (some false))) else (impl_ValidFeeder.l0 kj18 l0_3 (l0_3.length : Int) (wrap64 (x8_1 + 1)) a0_0 a0_1 a0_2 l0_3)) = some r := by rw [if_neg (show ¬ (false = true) by decide)] at H; exact H
            clear H
            have H := H1
            clear H1
            by_cases c30 : x8_1 > 0
            ·rw [if_pos c30] at H
             have c30b0 : decide (0 < x8_1) = true := decide_eq_true c30
             clear c30
             replace H := Option.bind_eq_some_iff.mp H
             obtain ⟨t201, A310, H⟩ := H
             try dsimp only at H
             have A31 := Aside0.mk A310
             clear A310
             by_cases c32 : t201 = true
             ·subst c32
              rw [if_pos rfl] at H; try dsimp only at H
              have H' := Aside0.mk H
              clear H
              have hnb33 := NB198_195.out
              have hnc33 := NB195_198.out
              have hcz34_0 : wc.cell? ⟨gb198, 0, none⟩ = some (.int .i64 ((rd_T66 l0_3 x8_1).f0)) := (blk_cell BK198.out 0).trans rfl
              have hcz34_1 : wc.cell? ⟨gb198, 1, none⟩ = some (.complex .f32 (((rd_T66 l0_3 x8_1).f1).re) (((rd_T66 l0_3 x8_1).f1).im)) := (blk_cell BK198.out 1).trans rfl
              have hcz34_2 : wc.cell? ⟨gb198, 2, none⟩ = some (.complex .f32 (((rd_T66 l0_3 x8_1).f2).re) (((rd_T66 l0_3 x8_1).f2).im)) := (blk_cell BK198.out 2).trans rfl
              have hcz34_3 : wc.cell? ⟨gb198, 3, none⟩ = some (.int .i64 ((rd_T66 l0_3 x8_1).f3)) := (blk_cell BK198.out 3).trans rfl
              have hcz34_4 : wc.cell? ⟨gb198, 4, none⟩ = some (.complex .f32 (((rd_T66 l0_3 x8_1).f4.f0).re) (((rd_T66 l0_3 x8_1).f4.f0).im)) := (blk_cell BK198.out 4).trans rfl
              have hcz34_5 : wc.cell? ⟨gb198, 5, none⟩ = some (.complex .f32 (((rd_T66 l0_3 x8_1).f4.f1).re) (((rd_T66 l0_3 x8_1).f4.f1).im)) := (blk_cell BK198.out 5).trans rfl
              have hcz34_6 : wc.cell? ⟨gb198, 6, none⟩ = some (.complex .f32 (((rd_T66 l0_3 x8_1).f4.f2).re) (((rd_T66 l0_3 x8_1).f4.f2).im)) := (blk_cell BK198.out 6).trans rfl
              have hcz34_7 : wc.cell? ⟨gb198, 7, none⟩ = some (.int .i64 ((rd_T66 l0_3 x8_1).f5)) := (blk_cell BK198.out 7).trans rfl
              have hfz34_0 := blk_frozen BK198.out 0
              have hfz34_1 := blk_frozen BK198.out 1
              have hfz34_2 := blk_frozen BK198.out 2
              have hfz34_3 := blk_frozen BK198.out 3
              have hfz34_4 := blk_frozen BK198.out 4
              have hfz34_5 := blk_frozen BK198.out 5
              have hfz34_6 := blk_frozen BK198.out 6
              have hfz34_7 := blk_frozen BK198.out 7
              go_wp2_with (first | (go_at_call 88; (with_reducible refine (impl_in.calls ((rd_T66 l0_3 x8_1).f0) 0 (wrap64 (x8_1 - 1)) true _ A31.out).mono ?_); rintro e w' ⟨rfl, ⟨nd, rfl⟩⟩))
              go_roundg kj18
              case measure => have := HK1.out; have := HJ6.out; have := HJ18.out; omega
              case rel => exact ⟨(wrap64 (x8_1 + 1)), rs_, H', ⟨by have := HK1.out; have := HJ6.out; have := HJ18.out; omega⟩, ⟨by refine bu ?_; exact BK195.out⟩, ⟨tb⟩⟩
             ·replace c32 := Bool.eq_false_iff.mpr c32
              subst c32
              have H1 : (some false) = some r := by rw [if_neg (show ¬ (false = true) by decide)] at H; exact H
              clear H
              have H := H1
              clear H1
              obtain rfl := Option.some.inj H
              have hnb35 := NB198_195.out
              have hnc35 := NB195_198.out
              have hcz36_0 : wc.cell? ⟨gb198, 0, none⟩ = some (.int .i64 ((rd_T66 l0_3 x8_1).f0)) := (blk_cell BK198.out 0).trans rfl
              have hcz36_1 : wc.cell? ⟨gb198, 1, none⟩ = some (.complex .f32 (((rd_T66 l0_3 x8_1).f1).re) (((rd_T66 l0_3 x8_1).f1).im)) := (blk_cell BK198.out 1).trans rfl
              have hcz36_2 : wc.cell? ⟨gb198, 2, none⟩ = some (.complex .f32 (((rd_T66 l0_3 x8_1).f2).re) (((rd_T66 l0_3 x8_1).f2).im)) := (blk_cell BK198.out 2).trans rfl
              have hcz36_3 : wc.cell? ⟨gb198, 3, none⟩ = some (.int .i64 ((rd_T66 l0_3 x8_1).f3)) := (blk_cell BK198.out 3).trans rfl
              have hcz36_4 : wc.cell? ⟨gb198, 4, none⟩ = some (.complex .f32 (((rd_T66 l0_3 x8_1).f4.f0).re) (((rd_T66 l0_3 x8_1).f4.f0).im)) := (blk_cell BK198.out 4).trans rfl
              have hcz36_5 : wc.cell? ⟨gb198, 5, none⟩ = some (.complex .f32 (((rd_T66 l0_3 x8_1).f4.f1).re) (((rd_T66 l0_3 x8_1).f4.f1).im)) := (blk_cell BK198.out 5).trans rfl
              have hcz36_6 : wc.cell? ⟨gb198, 6, none⟩ = some (.complex .f32 (((rd_T66 l0_3 x8_1).f4.f2).re) (((rd_T66 l0_3 x8_1).f4.f2).im)) := (blk_cell BK198.out 6).trans rfl
              have hcz36_7 : wc.cell? ⟨gb198, 7, none⟩ = some (.int .i64 ((rd_T66 l0_3 x8_1).f5)) := (blk_cell BK198.out 7).trans rfl
              have hfz36_0 := blk_frozen BK198.out 0
              have hfz36_1 := blk_frozen BK198.out 1
              have hfz36_2 := blk_frozen BK198.out 2
              have hfz36_3 := blk_frozen BK198.out 3
              have hfz36_4 := blk_frozen BK198.out 4
              have hfz36_5 := blk_frozen BK198.out 5
              have hfz36_6 := blk_frozen BK198.out 6
              have hfz36_7 := blk_frozen BK198.out 7
              go_wp2_with (first | (go_at_call 88; (with_reducible refine (impl_in.calls ((rd_T66 l0_3 x8_1).f0) 0 (wrap64 (x8_1 - 1)) false _ A31.out).mono ?_); rintro e w' ⟨rfl, ⟨nd, rfl⟩⟩))
              go_ret
              exact ⟨re_, tb⟩
            ·rw [if_neg c30] at H
             have c30b0 : decide (0 < x8_1) = false := decide_eq_false c30
             clear c30
             have H' := Aside0.mk H
             clear H
             go_wp2
             go_roundg kj18
             case measure => have := HK1.out; have := HJ6.out; have := HJ18.out; omega
             case rel => exact ⟨(wrap64 (x8_1 + 1)), rs_, H', ⟨by have := HK1.out; have := HJ6.out; have := HJ18.out; omega⟩, ⟨by refine bu ?_; exact BK195.out⟩, ⟨tb⟩⟩
     ·rw [if_neg c6] at H
      exact absurd H (by simp)
    ·rw [if_neg c5] at H
     exact absurd H (by simp)
   ·rw [if_neg c4] at H
    have c4b0 : decide (x8_1 < (l0_3.length : Int)) = false := decide_eq_false c4
    clear c4
    replace H := Option.bind_eq_some_iff.mp H
    obtain ⟨t196, A370, H⟩ := H
    try dsimp only at H
    have A37 := Aside0.mk A370
    clear A370
    obtain rfl := Option.some.inj H
    have hcz38_0 : wr.cell? ⟨gb195, 0, none⟩ = some (.complex .f32 a0_0.re a0_0.im) := (blk_cell BK195.out 0).trans rfl
    have hcz38_1 : wr.cell? ⟨gb195, 1, none⟩ = some (.complex .f32 a0_1.re a0_1.im) := (blk_cell BK195.out 1).trans rfl
    have hcz38_2 : wr.cell? ⟨gb195, 2, none⟩ = some (.complex .f32 a0_2.re a0_2.im) := (blk_cell BK195.out 2).trans rfl
    have hcz38_3 : wr.cell? ⟨gb195, 3, none⟩ = some (.slice A0_3 l0_3.length c0_3) := (blk_cell BK195.out 3).trans rfl
    have hfz38_0 := blk_frozen BK195.out 0
    have hfz38_1 := blk_frozen BK195.out 1
    have hfz38_2 := blk_frozen BK195.out 2
    have hfz38_3 := blk_frozen BK195.out 3
    go_wp2_with (first | ((with_reducible refine gate_callee (f := 88) rfl ?_); refine gx_ (some 57) Try.func88 #[.int .i64 (l0_3.length : Int), .int .i64 1, .int .i64 16] ?_; (with_reducible refine (impl_in.calls (l0_3.length : Int) 1 16 t196 _ A37.out).mono ?_); rintro e w' ⟨rfl, ⟨nd, rfl⟩⟩; refine ⟨_, rfl, ?_⟩))
    go_ret
    exact ⟨re_, tb⟩

end Go.Proofs.Ytcgpomicgbmdlaa.PFnBanks
namespace Go.Proofs.Ytcgpomicgbmdlaa.PFnBanks
open Go.RowKit Go.Proofs.YtcgpomicgbmdlaaW.PrintWords Go.Proofs.YtcgpomicgbmdlaaW.PrintLast Go.Proofs.YtcgpomicgbmdlaaW.PrintMore
attribute [local go_sem] max2_int min2_int max_two min_two max_three min_three max_four min_four   -- for this text's walks alone
set_option linter.unusedVariables false
set_option linter.unusedSimpArgs false

/-- A state of type 42 at block g of W; what its slices lead to came in by w0. -/
def IsS42 (w0 W : World) (g : Nat) (f0 : Cx) (f1 : Cx) (f2 : Cx) (f3 : List (S66)) : Prop := ∃ A3 c3, W.heap[g]? = some (.cells #[.complex .f32 f0.re f0.im, .complex .f32 f1.re f1.im, .complex .f32 f2.re f2.im, .slice A3 f3.length c3] 42 (0, 0)) ∧ w0.heap.size ≤ g ∧ Kd.C k66 w0 A3 f3.length f3 ∧ f3.length ≤ c3
theorem IsS42.grown {w0 W : World} {g : Nat} {f0 : Cx} {f1 : Cx} {f2 : Cx} {f3 : List (S66)} {W1 : World} {row : Option Nat} (h : IsS42 w0 W g f0 f1 f2 f3) (hw : W.grownBy W1 row) (hne : some g ≠ row) : IsS42 w0 W1 g f0 f1 f2 f3 := by
 obtain ⟨A3, c3, hb, hg, hr3, hl3⟩ := h
 exact ⟨A3, c3, blk_grown hb hw hne, hg, hr3, hl3⟩
theorem IsS42.own_neN {w0 W : World} {g : Nat} {f0 : Cx} {f1 : Cx} {f2 : Cx} {f3 : List (S66)} {α : Type} {d : Kd α} {e : Nat} {base : Nat} {ok : Nat → Prop} {v : Value} {xs : List α} (h : IsS42 w0 W g f0 f1 f2 f3) (ho : Kd.N d e W base ok v xs) (ht : e ≠ 42) : some g ≠ v.ownBlock := by
 obtain ⟨A3, c3, hb, hg, hr3, hl3⟩ := h
 exact Kd.N_ne ho hb ht
theorem IsS42.fresh {w0 W : World} {g : Nat} {f0 : Cx} {f1 : Cx} {f2 : Cx} {f3 : List (S66)} (h : IsS42 w0 W g f0 f1 f2 f3) : ∀ k, W.heap.size ≤ k → k ≠ g := by
 obtain ⟨A3, c3, hb, hg, hr3, hl3⟩ := h
 exact Kd.freshB hb
theorem IsS42.kept {w0 W : World} {g : Nat} {f0 : Cx} {f1 : Cx} {f2 : Cx} {f3 : List (S66)} {W1 : World} {S : Nat → Prop} (h : IsS42 w0 W g f0 f1 f2 f3) (hk : Kept W W1 S) (hne : ¬ S g) : IsS42 w0 W1 g f0 f1 f2 f3 := by
 obtain ⟨A3, c3, hb, hg, hr3, hl3⟩ := h
 exact ⟨A3, c3, blk_kept hb hk hne, hg, hr3, hl3⟩
theorem IsS42.below {w0 W : World} {g : Nat} {f0 : Cx} {f1 : Cx} {f2 : Cx} {f3 : List (S66)} {W1 : World} (h : IsS42 w0 W g f0 f1 f2 f3) (hw : Below W.heap.size W W1) : IsS42 w0 W1 g f0 f1 f2 f3 := h.grown (grown_of_below hw none) (by simp)
theorem IsS42.alloc {w0 W : World} {g : Nat} {f0 : Cx} {f1 : Cx} {f2 : Cx} {f3 : List (S66)} (h : IsS42 w0 W g f0 f1 f2 f3) (o : Obj) : IsS42 w0 (W.alloc o) g f0 f1 f2 f3 := h.below (below_alloc (Below.refl _ _) o)
theorem IsS42.drewN {w0 W : World} {g : Nat} {f0 : Cx} {f1 : Cx} {f2 : Cx} {f3 : List (S66)} (h : IsS42 w0 W g f0 f1 f2 f3) (m : Nat) : IsS42 w0 (W.drewN m) g f0 f1 f2 f3 := h
theorem IsS42.drew {w0 W : World} {g : Nat} {f0 : Cx} {f1 : Cx} {f2 : Cx} {f3 : List (S66)} (h : IsS42 w0 W g f0 f1 f2 f3) : IsS42 w0 W.drew g f0 f1 f2 f3 := h
theorem IsS42.at_ {w0 W : World} {g : Nat} {f0 : Cx} {f1 : Cx} {f2 : Cx} {f3 : List (S66)} {w' : World} {m : Nat} (hq : W.drewN m = w') (h : IsS42 w0 W g f0 f1 f2 f3) : IsS42 w0 w' g f0 f1 f2 f3 := by subst hq; exact IsS42.drewN h m
theorem IsS42.apart {w0 W : World} {g : Nat} {f0 : Cx} {f1 : Cx} {f2 : Cx} {f3 : List (S66)} {α : Type} {d : Kd α} {e : Nat} {base : Nat} {ok : Nat → Prop} {v : Value} {xs : List α} (h : IsS42 w0 W g f0 f1 f2 f3) (ho : d.R e W base ok v xs) (ht : ∀ q, q ∈ e :: d.E → q ≠ 42) : d.R e W base (fun k => ok k ∧ k ≠ g) v xs := by
 obtain ⟨A3, c3, hb, hg, hr3, hl3⟩ := h
 exact Kd.R_types ho hb ht
theorem IsS42.own_ne {w0 W : World} {g : Nat} {f0 : Cx} {f1 : Cx} {f2 : Cx} {f3 : List (S66)} {α : Type} {d : Kd α} {e : Nat} {base : Nat} {ok : Nat → Prop} {v : Value} {xs : List α} (h : IsS42 w0 W g f0 f1 f2 f3) (ho : d.R e W base ok v xs) (ht : e ≠ 42) : some g ≠ v.ownBlock := by
 obtain ⟨A3, c3, hb, hg, hr3, hl3⟩ := h
 exact Kd.R_ne ho hb ht
theorem IsS42.apartQ {w0 W : World} {g : Nat} {f0 : Cx} {f1 : Cx} {f2 : Cx} {f3 : List (S66)} {α : Type} {d : Kd α} {e : Nat} {base : Nat} {ok : Nat → Prop} {v : Value} {xs : List α} (h : IsS42 w0 W g f0 f1 f2 f3) (ho : d.Q e W base ok v xs) (ht : ∀ q, q ∈ e :: d.E → q ≠ 42) : d.Q e W base (fun k => ok k ∧ k ≠ g) v xs := by
 obtain ⟨A3, c3, hb, hg, hr3, hl3⟩ := h
 exact Kd.Q_types ho hb ht
theorem IsS42.own_neQ {w0 W : World} {g : Nat} {f0 : Cx} {f1 : Cx} {f2 : Cx} {f3 : List (S66)} {α : Type} {d : Kd α} {e : Nat} {base : Nat} {ok : Nat → Prop} {v : Value} {xs : List α} (h : IsS42 w0 W g f0 f1 f2 f3) (ho : d.Q e W base ok v xs) (ht : e ≠ 42) : some g ≠ v.ownBlock := by
 obtain ⟨A3, c3, hb, hg, hr3, hl3⟩ := h
 exact Kd.Q_ne ho hb ht
theorem IsS42.apartS {w0 W : World} {g : Nat} {f0 : Cx} {f1 : Cx} {f2 : Cx} {f3 : List (S66)} {α : Type} {d : Kd α} {e : Nat} {base : Nat} {ok : Nat → Prop} {v : Value} {xs : List α} (h : IsS42 w0 W g f0 f1 f2 f3) (ho : d.S e W base ok v xs) (ht : ∀ q, q ∈ e :: d.E → q ≠ 42) : d.S e W base (fun k => ok k ∧ k ≠ g) v xs := by
 obtain ⟨A3, c3, hb, hg, hr3, hl3⟩ := h
 exact Kd.S_types ho hb ht
theorem IsS42.own_neS {w0 W : World} {g : Nat} {f0 : Cx} {f1 : Cx} {f2 : Cx} {f3 : List (S66)} {α : Type} {d : Kd α} {e : Nat} {base : Nat} {ok : Nat → Prop} {v : Value} {xs : List α} (h : IsS42 w0 W g f0 f1 f2 f3) (ho : d.S e W base ok v xs) (ht : e ≠ 42) : some g ≠ v.ownBlock := by
 obtain ⟨A3, c3, hb, hg, hr3, hl3⟩ := h
 exact Kd.S_ne ho hb ht
theorem IsS42.lt {w0 W : World} {g : Nat} {f0 : Cx} {f1 : Cx} {f2 : Cx} {f3 : List (S66)} (h : IsS42 w0 W g f0 f1 f2 f3) : g < W.heap.size := by
 obtain ⟨A3, c3, hb, hg, hr3, hl3⟩ := h
 exact blk_lt hb
theorem IsS42.ge {w0 W : World} {g : Nat} {f0 : Cx} {f1 : Cx} {f2 : Cx} {f3 : List (S66)} (h : IsS42 w0 W g f0 f1 f2 f3) : w0.heap.size ≤ g := by
 obtain ⟨A3, c3, hb, hg, hr3, hl3⟩ := h
 exact hg
theorem IsS42.ne_blk {w0 W : World} {g : Nat} {f0 : Cx} {f1 : Cx} {f2 : Cx} {f3 : List (S66)} {a : Nat} {cs : Array Value} {t : TypeId} {fr : Nat × Nat} (h : IsS42 w0 W g f0 f1 f2 f3) (hb2 : W.heap[a]? = some (.cells cs t fr)) (ht : t ≠ 42) : g ≠ a := by
 obtain ⟨A3, c3, hb, hg, hr3, hl3⟩ := h
 rintro rfl
 rw [hb] at hb2
 injection hb2 with hb2
 injection hb2 with _ ht2
 exact ht ht2.symm
theorem IsS42.far {w0 W : World} {g : Nat} {f0 : Cx} {f1 : Cx} {f2 : Cx} {f3 : List (S66)} {p : Addr} (h : IsS42 w0 W g f0 f1 f2 f3) (hne : g ≠ p.block) (u : Value) : IsS42 w0 (W.setCell p u) g f0 f1 f2 f3 := by
 obtain ⟨A3, c3, hb, hg, hr3, hl3⟩ := h
 exact ⟨A3, c3, blk_far hb hne u, hg, hr3, hl3⟩
theorem cellS42_0 {W : World} {g : Nat} {A3 : Option Addr} {c3 : Nat} {f0 : Cx} {f1 : Cx} {f2 : Cx} {f3 : List (S66)} (h : W.heap[g]? = some (.cells #[.complex .f32 f0.re f0.im, .complex .f32 f1.re f1.im, .complex .f32 f2.re f2.im, .slice A3 f3.length c3] 42 (0, 0))) : W.cell? ⟨g, 0, none⟩ = some (.complex .f32 f0.re f0.im) := (blk_cell h 0).trans rfl
theorem IsS42.set_0 {w0 W : World} {g : Nat} {f0 : Cx} {f1 : Cx} {f2 : Cx} {f3 : List (S66)} (h : IsS42 w0 W g f0 f1 f2 f3) (x : Cx) : IsS42 w0 (W.setCell ⟨g, 0, none⟩ (.complex .f32 x.re x.im)) g x f1 f2 f3 := by
 obtain ⟨A3, c3, hb, hg, hr3, hl3⟩ := h
 exact ⟨A3, c3, by simpa using blk_set hb 0 (.complex .f32 x.re x.im), hg, hr3, hl3⟩
theorem cellS42_1 {W : World} {g : Nat} {A3 : Option Addr} {c3 : Nat} {f0 : Cx} {f1 : Cx} {f2 : Cx} {f3 : List (S66)} (h : W.heap[g]? = some (.cells #[.complex .f32 f0.re f0.im, .complex .f32 f1.re f1.im, .complex .f32 f2.re f2.im, .slice A3 f3.length c3] 42 (0, 0))) : W.cell? ⟨g, 1, none⟩ = some (.complex .f32 f1.re f1.im) := (blk_cell h 1).trans rfl
theorem IsS42.set_1 {w0 W : World} {g : Nat} {f0 : Cx} {f1 : Cx} {f2 : Cx} {f3 : List (S66)} (h : IsS42 w0 W g f0 f1 f2 f3) (x : Cx) : IsS42 w0 (W.setCell ⟨g, 1, none⟩ (.complex .f32 x.re x.im)) g f0 x f2 f3 := by
 obtain ⟨A3, c3, hb, hg, hr3, hl3⟩ := h
 exact ⟨A3, c3, by simpa using blk_set hb 1 (.complex .f32 x.re x.im), hg, hr3, hl3⟩
theorem cellS42_2 {W : World} {g : Nat} {A3 : Option Addr} {c3 : Nat} {f0 : Cx} {f1 : Cx} {f2 : Cx} {f3 : List (S66)} (h : W.heap[g]? = some (.cells #[.complex .f32 f0.re f0.im, .complex .f32 f1.re f1.im, .complex .f32 f2.re f2.im, .slice A3 f3.length c3] 42 (0, 0))) : W.cell? ⟨g, 2, none⟩ = some (.complex .f32 f2.re f2.im) := (blk_cell h 2).trans rfl
theorem IsS42.set_2 {w0 W : World} {g : Nat} {f0 : Cx} {f1 : Cx} {f2 : Cx} {f3 : List (S66)} (h : IsS42 w0 W g f0 f1 f2 f3) (x : Cx) : IsS42 w0 (W.setCell ⟨g, 2, none⟩ (.complex .f32 x.re x.im)) g f0 f1 x f3 := by
 obtain ⟨A3, c3, hb, hg, hr3, hl3⟩ := h
 exact ⟨A3, c3, by simpa using blk_set hb 2 (.complex .f32 x.re x.im), hg, hr3, hl3⟩
theorem cellS42_3 {W : World} {g : Nat} {A3 : Option Addr} {c3 : Nat} {f0 : Cx} {f1 : Cx} {f2 : Cx} {f3 : List (S66)} (h : W.heap[g]? = some (.cells #[.complex .f32 f0.re f0.im, .complex .f32 f1.re f1.im, .complex .f32 f2.re f2.im, .slice A3 f3.length c3] 42 (0, 0))) : W.cell? ⟨g, 3, none⟩ = some (.slice A3 f3.length c3) := (blk_cell h 3).trans rfl
theorem IsS42.new (w0 W : World) (A3 : Option Addr) (c3 : Nat) (f0 : Cx) (f1 : Cx) (f2 : Cx) (f3 : List (S66)) (hB : Below w0.heap.size w0 W) (hr3 : Kd.C k66 w0 A3 f3.length f3) (hl3 : f3.length ≤ c3) : IsS42 w0 (W.alloc (.cells #[.complex .f32 f0.re f0.im, .complex .f32 f1.re f1.im, .complex .f32 f2.re f2.im, .slice A3 f3.length c3] 42)) W.heap.size f0 f1 f2 f3 := ⟨A3, c3, by simpa using heap_alloc_new W _, hB.size, hr3, hl3⟩
theorem IsS42.up {P : Prop} (h : P := by repeat (first | (with_reducible first | exact hi_ | apply IsS42.alloc | apply IsS42.drewN | apply IsS42.drew | apply IsS42.set_0 | apply IsS42.set_1 | apply IsS42.set_2 | refine IsS42.far ?_ (Aside0.out (by assumption)) _) | exact hi_)) : P := h
theorem IsS42.cell_0 {w0 W : World} {g : Nat} {f0 : Cx} {f1 : Cx} {f2 : Cx} {f3 : List (S66)} (h : IsS42 w0 W g f0 f1 f2 f3) : W.cell? ⟨g, 0, none⟩ = some (.complex .f32 f0.re f0.im) := by
 obtain ⟨A3, c3, hb, hg, hr3, hl3⟩ := h
 exact cellS42_0 hb
theorem IsS42.cell_1 {w0 W : World} {g : Nat} {f0 : Cx} {f1 : Cx} {f2 : Cx} {f3 : List (S66)} (h : IsS42 w0 W g f0 f1 f2 f3) : W.cell? ⟨g, 1, none⟩ = some (.complex .f32 f1.re f1.im) := by
 obtain ⟨A3, c3, hb, hg, hr3, hl3⟩ := h
 exact cellS42_1 hb
theorem IsS42.cell_2 {w0 W : World} {g : Nat} {f0 : Cx} {f1 : Cx} {f2 : Cx} {f3 : List (S66)} (h : IsS42 w0 W g f0 f1 f2 f3) : W.cell? ⟨g, 2, none⟩ = some (.complex .f32 f2.re f2.im) := by
 obtain ⟨A3, c3, hb, hg, hr3, hl3⟩ := h
 exact cellS42_2 hb
theorem IsS42.cellx_3 {w0 W : World} {g : Nat} {f0 : Cx} {f1 : Cx} {f2 : Cx} {f3 : List (S66)} (h : IsS42 w0 W g f0 f1 f2 f3) : ∃ A_ c_, W.cell? ⟨g, 3, none⟩ = some (.slice A_ f3.length c_) := by
 obtain ⟨A3, c3, hb, hg, hr3, hl3⟩ := h
 exact ⟨_, _, cellS42_3 hb⟩

/-! ### impl_Feeder_has: function 90 -/
def impl_Feeder_has.f (k : Nat) (s0_0 : Cx) (s0_1 : Cx) (s0_2 : Cx) (s0_3 : List (S66)) (a1 : Int) : Option (Bool × Cx × Cx × Cx) := (impl_ValidFeeder.f k s0_0 s0_1 s0_2 s0_3).bind fun t204 => (if t204 = true then ((impl_in.f a1 0 (wrap64 ((s0_3.length : Int) - 1))).bind fun t205 => (some (t205, s0_0, s0_1, s0_2))) else (some (false, s0_0, s0_1, s0_2)))
theorem impl_Feeder_has.mono : ∀ a0 a1 a2 a3 a4 k, LeO (impl_Feeder_has.f k a0 a1 a2 a3 a4) (impl_Feeder_has.f (k + 1) a0 a1 a2 a3 a4) := by
 intro a0 a1 a2 a3 a4 k
 unfold impl_Feeder_has.f
 repeat' first
   | (with_reducible exact impl_ValidFeeder.mono _ _ _ _ _)
   | (with_reducible exact LeO.refl _)
   | (with_reducible exact LeO.none _)
   | (with_reducible refine LeO.ite ?_ ?_)
   | (with_reducible refine LeO.bind ?_ (fun _ => ?_))
   | exact impl_ValidFeeder.mono _ _ _ _ _
   | exact LeO.none _
   | refine LeO.ite ?_ ?_
   | refine LeO.bind ?_ (fun _ => ?_)
set_option maxHeartbeats 8000000 in
set_option maxRecDepth 100000 in
theorem impl_Feeder_has.calls (k : Nat) (g : Nat) (s0_0 : Cx) (s0_1 : Cx) (s0_2 : Cx) (s0_3 : List (S66)) (a1 : Int) (r1 : Bool) (r2 : Cx) (r3 : Cx) (r4 : Cx) (w0 w : World) (hI : IsS42 w0 w g s0_0 s0_1 s0_2 s0_3) (hB : Below w0.heap.size w0 w) (h : impl_Feeder_has.f k s0_0 s0_1 s0_2 s0_3 a1 = some (r1, r2, r3, r4)) :
  Calls Try.prog 90 #[.pointer (some ⟨g, 0, none⟩), .int .i64 a1] w fun e w' => e = .returned (.bool r1) ∧ IsS42 w0 w' g r2 r3 r4 s0_3 ∧ Below w0.heap.size w0 w' ∧ KeepBut w w' g none := by
 have hu42 := Try.underlying42
 have HI0 := Aside0.mk hI
 have HK := Aside0.mk (KeepBut.refl w g none)
 have HL := Aside0.mk hB.size
 clear hI
 have HW0 := Aside0.mk hB.size
 have HB := Aside0.mk hB
 clear hB
 have H : ((impl_ValidFeeder.f k s0_0 s0_1 s0_2 s0_3).bind fun t204 => (if t204 = true then ((impl_in.f a1 0 (wrap64 ((s0_3.length : Int) - 1))).bind fun t205 => (some (t205, s0_0, s0_1, s0_2))) else (some (false, s0_0, s0_1, s0_2)))) = some (r1, r2, r3, r4) := h
 clear h
 replace H := Option.bind_eq_some_iff.mp H
 obtain ⟨t204, A30, H⟩ := H
 try dsimp only at H
 have A3 := Aside0.mk A30
 clear A30
 by_cases c4 : t204 = true
 ·subst c4
  rw [if_pos rfl] at H; try dsimp only at H
  replace H := Option.bind_eq_some_iff.mp H
  obtain ⟨t205, A50, H⟩ := H
  try dsimp only at H
  have A5 := Aside0.mk A50
  clear A50
  simp only [Option.some.injEq, Prod.mk.injEq] at H
  obtain ⟨rfl, rfl, rfl, rfl⟩ := H
  obtain ⟨ASz6_3, cSz6_3, HGz6, hgz6, HSz6_3, HLz6_3⟩ := HI0.out
  have hcz6_0 := cellS42_0 HGz6
  have hcz6_1 := cellS42_1 HGz6
  have hcz6_2 := cellS42_2 HGz6
  have hcz6_3 := cellS42_3 HGz6
  have hfz6_0 := blk_frozen HGz6 0
  have hfz6_1 := blk_frozen HGz6 1
  have hfz6_2 := blk_frozen HGz6 2
  clear HGz6 hgz6
  have HR203 := Aside0.mk (Kd.C_foot_entry k66_heap HSz6_3 (by have ge_ := IsS42.ge HI0.out; exact tb) (IsS42.ge HI0.out) (by repeat (first | (with_reducible first | exact HK.out | apply KeepBut.set_ | apply keep_drewN | apply keep_drew | apply keep_alloc) | exact HK.out)) HW0.out)
  have HC203 := Aside0.mk HLz6_3
  go_enter Try.func90, Try.ntmps90
  go_wp2_with (first | ((with_reducible refine gate_callee (f := 34) rfl ?_); refine gx_ (some 8) Try.func34 #[.agg #[.complex .f32 s0_0.re s0_0.im, .complex .f32 s0_1.re s0_1.im, .complex .f32 s0_2.re s0_2.im, .slice ASz6_3 s0_3.length cSz6_3]] ?_; (with_reducible refine (impl_ValidFeeder.calls k s0_0 s0_1 s0_2 _ _ s0_3 true _ ?side1 ?side2 A3.out).mono ?_); (case side1 => exact Kd.C_foot_now HR203.out (by repeat (first | (with_reducible first | exact HK.out | apply KeepBut.set_ | apply keep_drewN | apply keep_drew | apply keep_alloc) | exact HK.out))); (case side2 => exact HC203.out); rintro e w7 ⟨rfl, hb⟩; refine ⟨_, rfl, ?_⟩; have n0_ := Aside0.mk (IsS42.below (by have hi_ := HI0.out; exact IsS42.up) hb); have n1_ := Aside0.mk (KeepBut.trans (by repeat (first | (with_reducible first | exact HK.out | apply KeepBut.set_ | apply keep_drewN | apply keep_drew | apply keep_alloc) | exact HK.out)) (KeepBut.of_below hb g none) (.inl rfl)); have n2_ := Aside0.mk (below_step (by have ge_ := IsS42.ge HI0.out; exact tb) hb); clear HI0; clear HK; clear HB; have HI0 := n0_; have HK := n1_; have HB := n2_; clear n0_ n1_ n2_; (try clear hb); (try clear hb2); (try clear hk); (try clear hi); obtain ⟨ASz8_3, cSz8_3, HGz8, hgz8, HSz8_3, HLz8_3⟩ := HI0.out; have hcz8_0 := cellS42_0 HGz8; have hcz8_1 := cellS42_1 HGz8; have hcz8_2 := cellS42_2 HGz8; have hcz8_3 := cellS42_3 HGz8; have hfz8_0 := blk_frozen HGz8 0; have hfz8_1 := blk_frozen HGz8 1; have hfz8_2 := blk_frozen HGz8 2; clear HGz8 hgz8) | (go_at_call 88; (with_reducible refine (impl_in.calls a1 0 (wrap64 ((s0_3.length : Int) - 1)) t205 _ A5.out).mono ?_); rintro e w' ⟨rfl, ⟨nd, rfl⟩⟩))
  go_ret
  exact ⟨re_, by have hi_ := HI0.out; exact IsS42.up, by have ge_ := IsS42.ge HI0.out; exact tb, by repeat (first | (with_reducible first | exact HK.out | apply KeepBut.set_ | apply keep_drewN | apply keep_drew | apply keep_alloc) | exact HK.out)⟩
 ·replace c4 := Bool.eq_false_iff.mpr c4
  subst c4
  have H1 : (some (false, s0_0, s0_1, s0_2)) = some (r1, r2, r3, r4) := by rw [if_neg (show ¬ (false = true) by decide)] at H; exact H
  clear H
  have H := H1
  clear H1
  simp only [Option.some.injEq, Prod.mk.injEq] at H
  obtain ⟨rfl, rfl, rfl, rfl⟩ := H
  obtain ⟨ASz9_3, cSz9_3, HGz9, hgz9, HSz9_3, HLz9_3⟩ := HI0.out
  have hcz9_0 := cellS42_0 HGz9
  have hcz9_1 := cellS42_1 HGz9
  have hcz9_2 := cellS42_2 HGz9
  have hcz9_3 := cellS42_3 HGz9
  have hfz9_0 := blk_frozen HGz9 0
  have hfz9_1 := blk_frozen HGz9 1
  have hfz9_2 := blk_frozen HGz9 2
  clear HGz9 hgz9
  have HR203 := Aside0.mk (Kd.C_foot_entry k66_heap HSz9_3 (by have ge_ := IsS42.ge HI0.out; exact tb) (IsS42.ge HI0.out) (by repeat (first | (with_reducible first | exact HK.out | apply KeepBut.set_ | apply keep_drewN | apply keep_drew | apply keep_alloc) | exact HK.out)) HW0.out)
  have HC203 := Aside0.mk HLz9_3
  go_enter Try.func90, Try.ntmps90
  go_wp2_with (first | ((with_reducible refine gate_callee (f := 34) rfl ?_); refine gx_ (some 8) Try.func34 #[.agg #[.complex .f32 s0_0.re s0_0.im, .complex .f32 s0_1.re s0_1.im, .complex .f32 s0_2.re s0_2.im, .slice ASz9_3 s0_3.length cSz9_3]] ?_; (with_reducible refine (impl_ValidFeeder.calls k s0_0 s0_1 s0_2 _ _ s0_3 false _ ?side1 ?side2 A3.out).mono ?_); (case side1 => exact Kd.C_foot_now HR203.out (by repeat (first | (with_reducible first | exact HK.out | apply KeepBut.set_ | apply keep_drewN | apply keep_drew | apply keep_alloc) | exact HK.out))); (case side2 => exact HC203.out); rintro e w10 ⟨rfl, hb⟩; refine ⟨_, rfl, ?_⟩; have n0_ := Aside0.mk (IsS42.below (by have hi_ := HI0.out; exact IsS42.up) hb); have n1_ := Aside0.mk (KeepBut.trans (by repeat (first | (with_reducible first | exact HK.out | apply KeepBut.set_ | apply keep_drewN | apply keep_drew | apply keep_alloc) | exact HK.out)) (KeepBut.of_below hb g none) (.inl rfl)); have n2_ := Aside0.mk (below_step (by have ge_ := IsS42.ge HI0.out; exact tb) hb); clear HI0; clear HK; clear HB; have HI0 := n0_; have HK := n1_; have HB := n2_; clear n0_ n1_ n2_; (try clear hb); (try clear hb2); (try clear hk); (try clear hi)))
  go_ret
  exact ⟨re_, by have hi_ := HI0.out; exact IsS42.up, by have ge_ := IsS42.ge HI0.out; exact tb, by repeat (first | (with_reducible first | exact HK.out | apply KeepBut.set_ | apply keep_drewN | apply keep_drew | apply keep_alloc) | exact HK.out)⟩

end Go.Proofs.Ytcgpomicgbmdlaa.PFnBanks
namespace Go.Proofs.Ytcgpomicgbmdlaa.PFnBanks
open Go.RowKit Go.Proofs.YtcgpomicgbmdlaaW.PrintWords Go.Proofs.YtcgpomicgbmdlaaW.PrintLast Go.Proofs.YtcgpomicgbmdlaaW.PrintMore
attribute [local go_sem] max2_int min2_int max_two min_two max_three min_three max_four min_four   -- for this text's walks alone
set_option linter.unusedVariables false
set_option linter.unusedSimpArgs false

/-! ### impl_IsFinite: function 94 -/
def impl_IsFinite.f (a0 : Nat) : Option (Bool) := if fok .sub .f32 a0 a0 = true then (some (feq .f32 (fv .sub .f32 a0 a0) 0)) else (none)
set_option maxHeartbeats 8000000 in
set_option maxRecDepth 100000 in
theorem impl_IsFinite.calls (a0 : Nat) (r : Bool) (w : World) (h : impl_IsFinite.f a0 = some r) :
  Calls Try.prog 94 #[.float .f32 a0] w fun e w' => e = .returned (.bool r) ∧ Drawn0 w w' := by
 have H : (if fok .sub .f32 a0 a0 = true then (some (feq .f32 (fv .sub .f32 a0 a0) 0)) else (none)) = some r := h
 clear h
 by_cases c2 : fok .sub .f32 a0 a0 = true
 ·rw [if_pos c2] at H
  have c2b0 := eq_true c2
  have c2b1 : decide (fok .sub .f32 a0 a0 = true) = true := decide_eq_true c2
  clear c2
  obtain rfl := Option.some.inj H
  go_enter Try.func94, Try.ntmps94
  go_wp2
  go_ret
  exact ⟨rs_, dr_⟩
 ·rw [if_neg c2] at H
  exact absurd H (by simp)

/-! ### impl_ConjugateOf: function 72 -/
def impl_ConjugateOf.f (a0 : Cx) : Option (Cx) := some (⟨a0.re, fneg .f32 a0.im⟩ : Cx)
set_option maxHeartbeats 8000000 in
set_option maxRecDepth 100000 in
theorem impl_ConjugateOf.calls (a0 : Cx) (r : Cx) (w : World) (h : impl_ConjugateOf.f a0 = some r) :
  Calls Try.prog 72 #[.complex .f32 a0.re a0.im] w fun e w' => e = .returned (.complex .f32 r.re r.im) ∧ Below w.heap.size w w' := by
 have HB := Aside0.mk (Below.refl w.heap.size w)
 have H : (some (⟨a0.re, fneg .f32 a0.im⟩ : Cx)) = some r := h
 clear h
 obtain rfl := Option.some.inj H
 go_enter Try.func72, Try.ntmps72
 go_wp2
 go_ret
 exact ⟨re_, tb⟩

end Go.Proofs.Ytcgpomicgbmdlaa.PFnBanks
namespace Go.Proofs.Ytcgpomicgbmdlaa.PFnBanks
open Go.RowKit Go.Proofs.YtcgpomicgbmdlaaW.PrintWords Go.Proofs.YtcgpomicgbmdlaaW.PrintLast Go.Proofs.YtcgpomicgbmdlaaW.PrintMore
attribute [local go_sem] max2_int min2_int max_two min_two max_three min_three max_four min_four   -- for this text's walks alone
set_option linter.unusedVariables false
set_option linter.unusedSimpArgs false

/-! ### impl_wide: function 126 -/
def impl_wide.f (a0 : Cx) : Option (Nat × Nat) := if cvok .f32 a0.re .f64 = true then (if cvok .f32 a0.im .f64 = true then (some (cv .f32 a0.re .f64, cv .f32 a0.im .f64)) else (none)) else (none)
set_option maxHeartbeats 8000000 in
set_option maxRecDepth 100000 in
theorem impl_wide.calls (a0 : Cx) (r1 : Nat) (r2 : Nat) (w : World) (h : impl_wide.f a0 = some (r1, r2)) :
  Calls Try.prog 126 #[.complex .f32 a0.re a0.im] w fun e w' => e = .returned (.tuple #[.float .f64 r1, .float .f64 r2]) ∧ Below w.heap.size w w' := by
 have HB := Aside0.mk (Below.refl w.heap.size w)
 have H : (if cvok .f32 a0.re .f64 = true then (if cvok .f32 a0.im .f64 = true then (some (cv .f32 a0.re .f64, cv .f32 a0.im .f64)) else (none)) else (none)) = some (r1, r2) := h
 clear h
 by_cases c2 : cvok .f32 a0.re .f64 = true
 ·rw [if_pos c2] at H
  have c2b0 := eq_true c2
  have c2b1 : decide (cvok .f32 a0.re .f64 = true) = true := decide_eq_true c2
  clear c2
  by_cases c3 : cvok .f32 a0.im .f64 = true
  ·rw [if_pos c3] at H
   have c3b0 := eq_true c3
   have c3b1 : decide (cvok .f32 a0.im .f64 = true) = true := decide_eq_true c3
   clear c3
   simp only [Option.some.injEq, Prod.mk.injEq] at H
   obtain ⟨rfl, rfl⟩ := H
   go_enter Try.func126, Try.ntmps126
   go_wp2
   go_ret2
   exact ⟨re_, tb⟩
  ·rw [if_neg c3] at H
   exact absurd H (by simp)
 ·rw [if_neg c2] at H
  exact absurd H (by simp)

end Go.Proofs.Ytcgpomicgbmdlaa.PFnBanks
namespace Go.Proofs.Ytcgpomicgbmdlaa.PFnBanks
open Go.RowKit Go.Proofs.YtcgpomicgbmdlaaW.PrintWords Go.Proofs.YtcgpomicgbmdlaaW.PrintLast Go.Proofs.YtcgpomicgbmdlaaW.PrintMore
attribute [local go_sem] max2_int min2_int max_two min_two max_three min_three max_four min_four   -- for this text's walks alone
set_option linter.unusedVariables false
set_option linter.unusedSimpArgs false

/-! ### impl_power: function 74 -/
def impl_power.f (a0 : Cx) : Option (Nat) := (impl_wide.f a0).bind fun bt206 => (if fok .mul .f64 bt206.1 bt206.1 = true then (if fok .mul .f64 bt206.2 bt206.2 = true then (if fok .add .f64 (fv .mul .f64 bt206.1 bt206.1) (fv .mul .f64 bt206.2 bt206.2) = true then (some (fv .add .f64 (fv .mul .f64 bt206.1 bt206.1) (fv .mul .f64 bt206.2 bt206.2))) else (none)) else (none)) else (none))
set_option maxHeartbeats 8000000 in
set_option maxRecDepth 100000 in
theorem impl_power.calls (a0 : Cx) (r : Nat) (w : World) (h : impl_power.f a0 = some r) :
  Calls Try.prog 74 #[.complex .f32 a0.re a0.im] w fun e w' => e = .returned (.float .f64 r) ∧ Below w.heap.size w w' := by
 have HB := Aside0.mk (Below.refl w.heap.size w)
 have H : ((impl_wide.f a0).bind fun bt206 => (if fok .mul .f64 bt206.1 bt206.1 = true then (if fok .mul .f64 bt206.2 bt206.2 = true then (if fok .add .f64 (fv .mul .f64 bt206.1 bt206.1) (fv .mul .f64 bt206.2 bt206.2) = true then (some (fv .add .f64 (fv .mul .f64 bt206.1 bt206.1) (fv .mul .f64 bt206.2 bt206.2))) else (none)) else (none)) else (none))) = some r := h
 clear h
 replace H := Option.bind_eq_some_iff.mp H
 obtain ⟨⟨t206, t207⟩, A20, H⟩ := H
 try dsimp only at H
 have A2 := Aside0.mk A20
 clear A20
 by_cases c3 : fok .mul .f64 t206 t206 = true
 ·rw [if_pos c3] at H
  have c3b0 := eq_true c3
  have c3b1 : decide (fok .mul .f64 t206 t206 = true) = true := decide_eq_true c3
  clear c3
  by_cases c4 : fok .mul .f64 t207 t207 = true
  ·rw [if_pos c4] at H
   have c4b0 := eq_true c4
   have c4b1 : decide (fok .mul .f64 t207 t207 = true) = true := decide_eq_true c4
   clear c4
   by_cases c5 : fok .add .f64 (fv .mul .f64 t206 t206) (fv .mul .f64 t207 t207) = true
   ·rw [if_pos c5] at H
    have c5b0 := eq_true c5
    have c5b1 : decide (fok .add .f64 (fv .mul .f64 t206 t206) (fv .mul .f64 t207 t207) = true) = true := decide_eq_true c5
    clear c5
    obtain rfl := Option.some.inj H
    go_enter Try.func74, Try.ntmps74
    go_wp2_with (first | ((with_reducible refine gate_callee (f := 126) rfl ?_); refine gx_ (some 7) Try.func126 #[.complex .f32 a0.re a0.im] ?_; (with_reducible refine (impl_wide.calls a0 t206 t207 _ A2.out).mono ?_); rintro e w6 ⟨rfl, hb⟩; refine ⟨_, rfl, ?_⟩; have n0_ := Aside0.mk (below_step tb hb); clear HB; have HB := n0_; clear n0_; (try clear hb); (try clear hb2); (try clear hk); (try clear hi)))
    go_ret
    exact ⟨re_, tb⟩
   ·rw [if_neg c5] at H
    exact absurd H (by simp)
  ·rw [if_neg c4] at H
   exact absurd H (by simp)
 ·rw [if_neg c3] at H
  exact absurd H (by simp)

end Go.Proofs.Ytcgpomicgbmdlaa.PFnBanks
namespace Go.Proofs.Ytcgpomicgbmdlaa.PFnBanks
open Go.RowKit Go.Proofs.YtcgpomicgbmdlaaW.PrintWords Go.Proofs.YtcgpomicgbmdlaaW.PrintLast Go.Proofs.YtcgpomicgbmdlaaW.PrintMore
attribute [local go_sem] max2_int min2_int max_two min_two max_three min_three max_four min_four   -- for this text's walks alone
set_option linter.unusedVariables false
set_option linter.unusedSimpArgs false

/-! ### impl_QuotientOf: function 95 -/
def impl_QuotientOf.f (a0 : Cx) (a1 : Cx) : Option (Cx) := (impl_wide.f a0).bind fun bt208 => ((impl_ConjugateOf.f a1).bind fun t210 => ((impl_wide.f t210).bind fun bt211 => ((impl_power.f a1).bind fun t213 => (if fok .mul .f64 bt208.1 bt211.1 = true then (if fok .mul .f64 bt208.2 bt211.2 = true then (if fok .sub .f64 (fv .mul .f64 bt208.1 bt211.1) (fv .mul .f64 bt208.2 bt211.2) = true then (if fok .mul .f64 bt208.1 bt211.2 = true then (if fok .mul .f64 bt208.2 bt211.1 = true then (if fok .add .f64 (fv .mul .f64 bt208.1 bt211.2) (fv .mul .f64 bt208.2 bt211.1) = true then (if fok .quo .f64 (fv .sub .f64 (fv .mul .f64 bt208.1 bt211.1) (fv .mul .f64 bt208.2 bt211.2)) t213 = true then (if cvok .f64 (fv .quo .f64 (fv .sub .f64 (fv .mul .f64 bt208.1 bt211.1) (fv .mul .f64 bt208.2 bt211.2)) t213) .f32 = true then (if fok .quo .f64 (fv .add .f64 (fv .mul .f64 bt208.1 bt211.2) (fv .mul .f64 bt208.2 bt211.1)) t213 = true then (if cvok .f64 (fv .quo .f64 (fv .add .f64 (fv .mul .f64 bt208.1 bt211.2) (fv .mul .f64 bt208.2 bt211.1)) t213) .f32 = true then (some (⟨cv .f64 (fv .quo .f64 (fv .sub .f64 (fv .mul .f64 bt208.1 bt211.1) (fv .mul .f64 bt208.2 bt211.2)) t213) .f32, cv .f64 (fv .quo .f64 (fv .add .f64 (fv .mul .f64 bt208.1 bt211.2) (fv .mul .f64 bt208.2 bt211.1)) t213) .f32⟩ : Cx)) else (none)) else (none)) else (none)) else (none)) else (none)) else (none)) else (none)) else (none)) else (none)) else (none)))))
set_option maxHeartbeats 8000000 in
set_option maxRecDepth 100000 in
theorem impl_QuotientOf.calls (a0 : Cx) (a1 : Cx) (r : Cx) (w : World) (h : impl_QuotientOf.f a0 a1 = some r) :
  Calls Try.prog 95 #[.complex .f32 a0.re a0.im, .complex .f32 a1.re a1.im] w fun e w' => e = .returned (.complex .f32 r.re r.im) ∧ Below w.heap.size w w' := by
 have HB := Aside0.mk (Below.refl w.heap.size w)
 have H : ((impl_wide.f a0).bind fun bt208 => ((impl_ConjugateOf.f a1).bind fun t210 => ((impl_wide.f t210).bind fun bt211 => ((impl_power.f a1).bind fun t213 => (if fok .mul .f64 bt208.1 bt211.1 = true then (if fok .mul .f64 bt208.2 bt211.2 = true then (if fok .sub .f64 (fv .mul .f64 bt208.1 bt211.1) (fv .mul .f64 bt208.2 bt211.2) = true then (if fok .mul .f64 bt208.1 bt211.2 = true then (if fok .mul .f64 bt208.2 bt211.1 = true then (if fok .add .f64 (fv .mul .f64 bt208.1 bt211.2) (fv .mul .f64 bt208.2 bt211.1) = true then (if fok .quo .f64 (fv .sub .f64 (fv .mul .f64 bt208.1 bt211.1) (fv .mul .f64 bt208.2 bt211.2)) t213 = true then (if cvok .f64 (fv .quo .f64 (fv .sub .f64 (fv .mul .f64 bt208.1 bt211.1) (fv .mul .f64 bt208.2 bt211.2)) t213) .f32 = true then (if fok .quo .f64 (fv .add .f64 (fv .mul .f64 bt208.1 bt211.2) (fv .mul .f64 bt208.2 bt211.1)) t213 = true then (if cvok .f64 (fv .quo .f64 (fv .add .f64 (fv .mul .f64 bt208.1 bt211.2) (fv .mul .f64 bt208.2 bt211.1)) t213) .f32 = true then (some (⟨cv .f64 (fv .quo .f64 (fv .sub .f64 (fv .mul .f64 bt208.1 bt211.1) (fv .mul .f64 bt208.2 bt211.2)) t213) .f32, cv .f64 (fv .quo .f64 (fv .add .f64 (fv .mul .f64 bt208.1 bt211.2) (fv .mul .f64 bt208.2 bt211.1)) t213) .f32⟩ : Cx)) else (none)) else (none)) else (none)) else (none)) else (none)) else (none)) else (none)) else (none)) else (none)) else (none)))))) = some r := h
 clear h
 replace H := Option.bind_eq_some_iff.mp H
 obtain ⟨⟨t208, t209⟩, A30, H⟩ := H
 try dsimp only at H
 have A3 := Aside0.mk A30
 clear A30
 replace H := Option.bind_eq_some_iff.mp H
 obtain ⟨t210, A40, H⟩ := H
 try dsimp only at H
 have A4 := Aside0.mk A40
 clear A40
 replace H := Option.bind_eq_some_iff.mp H
 obtain ⟨⟨t211, t212⟩, A50, H⟩ := H
 try dsimp only at H
 have A5 := Aside0.mk A50
 clear A50
 replace H := Option.bind_eq_some_iff.mp H
 obtain ⟨t213, A60, H⟩ := H
 try dsimp only at H
 have A6 := Aside0.mk A60
 clear A60
 by_cases c7 : fok .mul .f64 t208 t211 = true
 ·rw [if_pos c7] at H
  have c7b0 := eq_true c7
  have c7b1 : decide (fok .mul .f64 t208 t211 = true) = true := decide_eq_true c7
  clear c7
  by_cases c8 : fok .mul .f64 t209 t212 = true
  ·rw [if_pos c8] at H
   have c8b0 := eq_true c8
   have c8b1 : decide (fok .mul .f64 t209 t212 = true) = true := decide_eq_true c8
   clear c8
   by_cases c9 : fok .sub .f64 (fv .mul .f64 t208 t211) (fv .mul .f64 t209 t212) = true
   ·rw [if_pos c9] at H
    have c9b0 := eq_true c9
    have c9b1 : decide (fok .sub .f64 (fv .mul .f64 t208 t211) (fv .mul .f64 t209 t212) = true) = true := decide_eq_true c9
    clear c9
    by_cases c10 : fok .mul .f64 t208 t212 = true
    ·rw [if_pos c10] at H
     have c10b0 := eq_true c10
     have c10b1 : decide (fok .mul .f64 t208 t212 = true) = true := decide_eq_true c10
     clear c10
     by_cases c11 : fok .mul .f64 t209 t211 = true
     ·rw [if_pos c11] at H
      have c11b0 := eq_true c11
      have c11b1 : decide (fok .mul .f64 t209 t211 = true) = true := decide_eq_true c11
      clear c11
      by_cases c12 : fok .add .f64 (fv .mul .f64 t208 t212) (fv .mul .f64 t209 t211) = true
      ·rw [if_pos c12] at H
       have c12b0 := eq_true c12
       have c12b1 : decide (fok .add .f64 (fv .mul .f64 t208 t212) (fv .mul .f64 t209 t211) = true) = true := decide_eq_true c12
       clear c12
       by_cases c13 : fok .quo .f64 (fv .sub .f64 (fv .mul .f64 t208 t211) (fv .mul .f64 t209 t212)) t213 = true
       ·rw [if_pos c13] at H
        have c13b0 := eq_true c13
        have c13b1 : decide (fok .quo .f64 (fv .sub .f64 (fv .mul .f64 t208 t211) (fv .mul .f64 t209 t212)) t213 = true) = true := decide_eq_true c13
        clear c13
        by_cases c14 : cvok .f64 (fv .quo .f64 (fv .sub .f64 (fv .mul .f64 t208 t211) (fv .mul .f64 t209 t212)) t213) .f32 = true
        ·rw [if_pos c14] at H
         have c14b0 := eq_true c14
         have c14b1 : decide (cvok .f64 (fv .quo .f64 (fv .sub .f64 (fv .mul .f64 t208 t211) (fv .mul .f64 t209 t212)) t213) .f32 = true) = true := decide_eq_true c14
         clear c14
         by_cases c15 : fok .quo .f64 (fv .add .f64 (fv .mul .f64 t208 t212) (fv .mul .f64 t209 t211)) t213 = true
         ·rw [if_pos c15] at H
          have c15b0 := eq_true c15
          have c15b1 : decide (fok .quo .f64 (fv .add .f64 (fv .mul .f64 t208 t212) (fv .mul .f64 t209 t211)) t213 = true) = true := decide_eq_true c15
          clear c15
          by_cases c16 : cvok .f64 (fv .quo .f64 (fv .add .f64 (fv .mul .f64 t208 t212) (fv .mul .f64 t209 t211)) t213) .f32 = true
          ·rw [if_pos c16] at H
           have c16b0 := eq_true c16
           have c16b1 : decide (cvok .f64 (fv .quo .f64 (fv .add .f64 (fv .mul .f64 t208 t212) (fv .mul .f64 t209 t211)) t213) .f32 = true) = true := decide_eq_true c16
           clear c16
           obtain rfl := Option.some.inj H
           go_enter Try.func95, Try.ntmps95
           go_wp2_with (first | ((with_reducible refine gate_callee (f := 126) rfl ?_); refine gx_ (some 14) Try.func126 #[.complex .f32 a0.re a0.im] ?_; (with_reducible refine (impl_wide.calls a0 t208 t209 _ A3.out).mono ?_); rintro e w17 ⟨rfl, hb⟩; refine ⟨_, rfl, ?_⟩; have n0_ := Aside0.mk (below_step tb hb); clear HB; have HB := n0_; clear n0_; (try clear hb); (try clear hb2); (try clear hk); (try clear hi)) | ((with_reducible refine gate_callee (f := 72) rfl ?_); refine gx_ (some 19) Try.func72 #[.complex .f32 a1.re a1.im] ?_; (with_reducible refine (impl_ConjugateOf.calls a1 t210 _ A4.out).mono ?_); rintro e w18 ⟨rfl, hb⟩; refine ⟨_, rfl, ?_⟩; have n0_ := Aside0.mk (below_step tb hb); clear HB; have HB := n0_; clear n0_; (try clear hb); (try clear hb2); (try clear hk); (try clear hi)) | ((with_reducible refine gate_callee (f := 126) rfl ?_); refine gx_ (some 20) Try.func126 #[.complex .f32 t210.re t210.im] ?_; (with_reducible refine (impl_wide.calls t210 t211 t212 _ A5.out).mono ?_); rintro e w19 ⟨rfl, hb⟩; refine ⟨_, rfl, ?_⟩; have n0_ := Aside0.mk (below_step tb hb); clear HB; have HB := n0_; clear n0_; (try clear hb); (try clear hb2); (try clear hk); (try clear hi)) | ((with_reducible refine gate_callee (f := 74) rfl ?_); refine gx_ (some 24) Try.func74 #[.complex .f32 a1.re a1.im] ?_; (with_reducible refine (impl_power.calls a1 t213 _ A6.out).mono ?_); rintro e w20 ⟨rfl, hb⟩; refine ⟨_, rfl, ?_⟩; have n0_ := Aside0.mk (below_step tb hb); clear HB; have HB := n0_; clear n0_; (try clear hb); (try clear hb2); (try clear hk); (try clear hi)))
           go_ret
           exact ⟨re_, tb⟩
          ·rw [if_neg c16] at H
           exact absurd H (by simp)
         ·rw [if_neg c15] at H
          exact absurd H (by simp)
        ·rw [if_neg c14] at H
         exact absurd H (by simp)
       ·rw [if_neg c13] at H
        exact absurd H (by simp)
      ·rw [if_neg c12] at H
       exact absurd H (by simp)
     ·rw [if_neg c11] at H
      exact absurd H (by simp)
    ·rw [if_neg c10] at H
     exact absurd H (by simp)
   ·rw [if_neg c9] at H
    exact absurd H (by simp)
  ·rw [if_neg c8] at H
   exact absurd H (by simp)
 ·rw [if_neg c7] at H
  exact absurd H (by simp)

end Go.Proofs.Ytcgpomicgbmdlaa.PFnBanks
namespace Go.Proofs.Ytcgpomicgbmdlaa.PFnBanks
open Go.RowKit Go.Proofs.YtcgpomicgbmdlaaW.PrintWords Go.Proofs.YtcgpomicgbmdlaaW.PrintLast Go.Proofs.YtcgpomicgbmdlaaW.PrintMore
attribute [local go_sem] max2_int min2_int max_two min_two max_three min_three max_four min_four   -- for this text's walks alone
set_option linter.unusedVariables false
set_option linter.unusedSimpArgs false

/-! ### impl_told: function 96 -/
def impl_told.f (k : Nat) (a0_0 : Cx) (a0_1 : Cx) (a0_2 : Cx) (l0_3 : List (S66)) : Option (Cx × Cx × Cx × (List (S66)) × Bool) := (impl_ValidFeeder.f k a0_0 a0_1 a0_2 l0_3).bind fun t216 => (if t216 = true then (some (a0_0, a0_1, a0_2, l0_3, true)) else (some ((⟨0, 0⟩ : Cx), (⟨0, 0⟩ : Cx), (⟨0, 0⟩ : Cx), ([] : List (S66)), false)))
theorem impl_told.mono : ∀ a0 a1 a2 a3 k, LeO (impl_told.f k a0 a1 a2 a3) (impl_told.f (k + 1) a0 a1 a2 a3) := by
 intro a0 a1 a2 a3 k
 unfold impl_told.f
 repeat' first
   | (with_reducible exact impl_ValidFeeder.mono _ _ _ _ _)
   | (with_reducible exact LeO.refl _)
   | (with_reducible exact LeO.none _)
   | (with_reducible refine LeO.ite ?_ ?_)
   | (with_reducible refine LeO.bind ?_ (fun _ => ?_))
   | exact impl_ValidFeeder.mono _ _ _ _ _
   | exact LeO.none _
   | refine LeO.ite ?_ ?_
   | refine LeO.bind ?_ (fun _ => ?_)
set_option maxHeartbeats 8000000 in
set_option maxRecDepth 100000 in
theorem impl_told.calls (k : Nat) (a0_0 : Cx) (a0_1 : Cx) (a0_2 : Cx) (P0_3_ : Nat → Prop) (u9000_ : Value) (l0_3 : List (S66)) (r1 : Cx) (r2 : Cx) (r3 : Cx) (r4 : List (S66)) (r5 : Bool) (w0 w : World) (hB : Below w0.heap.size w0 w) (ho0_3 : Kd.R k66 66 w w0.heap.size P0_3_ u9000_ l0_3) (h : impl_told.f k a0_0 a0_1 a0_2 l0_3 = some (r1, r2, r3, r4, r5)) :
  Calls Try.prog 96 #[.agg #[.complex .f32 a0_0.re a0_0.im, .complex .f32 a0_1.re a0_1.im, .complex .f32 a0_2.re a0_2.im, u9000_]] w fun e w' => ∃ v3_ : Value, e = .returned (.tuple #[.agg #[.complex .f32 r1.re r1.im, .complex .f32 r2.re r2.im, .complex .f32 r3.re r3.im, v3_], .bool r5]) ∧ Kd.R k66 66 w' w0.heap.size (fun k_ => (P0_3_ k_ ∨ w.heap.size ≤ k_)) v3_ r4 ∧ Below w0.heap.size w0 w' ∧ Kept w w' (fun k_ => P0_3_ k_) := by
 have hu42 := Try.underlying42
 have HO0_3 := Aside0.mk (show Kd.R k66 66 w w0.heap.size (fun k_ => (P0_3_ k_ ∨ w.heap.size ≤ k_)) u9000_ l0_3 from Kd.R_mono ho0_3 (fun k_ hk => (.inl hk)))
 have HK := Aside0.mk (Kept.refl w (fun k_ => P0_3_ k_))
 have HW0 := Aside0.mk hB.size
 have HB := Aside0.mk hB
 clear hB
 have H : ((impl_ValidFeeder.f k a0_0 a0_1 a0_2 l0_3).bind fun t216 => (if t216 = true then (some (a0_0, a0_1, a0_2, l0_3, true)) else (some ((⟨0, 0⟩ : Cx), (⟨0, 0⟩ : Cx), (⟨0, 0⟩ : Cx), ([] : List (S66)), false)))) = some (r1, r2, r3, r4, r5) := h
 clear h
 replace H := Option.bind_eq_some_iff.mp H
 obtain ⟨t216, A20, H⟩ := H
 try dsimp only at H
 have A2 := Aside0.mk A20
 clear A20
 by_cases c3 : t216 = true
 ·subst c3
  rw [if_pos rfl] at H; try dsimp only at H
  simp only [Option.some.injEq, Prod.mk.injEq] at H
  obtain ⟨rfl, rfl, rfl, rfl, rfl⟩ := H
  obtain ⟨Ao4, co4, eo4⟩ := Kd.R_slice HO0_3.out
  subst eo4
  go_enter Try.func96, Try.ntmps96
  go_wp2_with (first | ((with_reducible refine gate_dst (N := 1) rfl ?_); refine box_event ?hg (N := 1) ?hd (cs := #[.complex .f32 a0_0.re a0_0.im, .complex .f32 a0_1.re a0_1.im, .complex .f32 a0_2.re a0_2.im, .slice Ao4 l0_3.length co4]) (t := 42) ?hr ?_; (case hd => rfl); (case hg => rfl); (case hr => first | (go_simp; done) | (go_simp; rfl)); intro gb214 hg w5 hbox hb; have n0_ := Aside0.mk (Kd.R_below (ru HO0_3.out) hb); have n1_ := Aside0.mk (Kept.below (S := (fun k_ => P0_3_ k_)) (by repeat (first | (with_reducible first | exact HK.out | apply Kept.alloc | apply Kept.drewN | apply Kept.drew) | exact HK.out)) hb); have n2_ := Aside0.mk (below_step tb hb); have n3_ := Aside0.mk (hbox); have n4_ := Aside0.mk ((by rw [hg]; exact (by first | exact HK.out.1 | exact (show Kept w _ (fun k_ => P0_3_ k_) from by repeat (first | (with_reducible first | exact HK.out | apply Kept.alloc | apply Kept.drewN | apply Kept.drew) | exact HK.out)).1) : w.heap.size ≤ gb214)); have n5_ := Aside0.mk ((by rw [hg]; exact (below_size tb) : w0.heap.size ≤ gb214)); clear HO0_3; clear HK; clear HB; have HO0_3 := n0_; have HK := n1_; have HB := n2_; have BK214 := n3_; have GW214 := n4_; have GE214 := n5_; clear n0_ n1_ n2_ n3_ n4_ n5_; clear hb hbox hg) | ((with_reducible refine gate_dst (N := 2) rfl ?_); refine box_event ?hg (N := 2) ?hd (cs := #[.complex .f32 0 0, .complex .f32 0 0, .complex .f32 0 0, .slice none 0 0]) (t := 42) ?hr ?_; (case hd => rfl); (case hg => rfl); (case hr => first | (go_simp; done) | (go_simp; rfl)); intro gb215 hg w6 hbox hb; have n0_ := Aside0.mk (Kd.R_below (ru HO0_3.out) hb); have n1_ := Aside0.mk (blk_below (g := gb214) (o := .cells #[.complex .f32 a0_0.re a0_0.im, .complex .f32 a0_1.re a0_1.im, .complex .f32 a0_2.re a0_2.im, .slice Ao4 l0_3.length co4] 42 (0, 0)) (bu BK214.out) hb); have n2_ := Aside0.mk (Kept.below (S := (fun k_ => P0_3_ k_)) (by repeat (first | (with_reducible first | exact HK.out | apply Kept.alloc | apply Kept.drewN | apply Kept.drew | refine Kept.setCell ?_ (.inr GW214.out) _) | exact HK.out)) hb); have n3_ := Aside0.mk (below_step tb hb); have n4_ := Aside0.mk (hbox); have n5_ := Aside0.mk ((by rw [hg]; exact (by first | exact HK.out.1 | exact (show Kept w _ (fun k_ => P0_3_ k_) from by repeat (first | (with_reducible first | exact HK.out | apply Kept.alloc | apply Kept.drewN | apply Kept.drew | refine Kept.setCell ?_ (.inr GW214.out) _) | exact HK.out)).1) : w.heap.size ≤ gb215)); have n6_ := Aside0.mk ((by rw [hg]; exact (below_size tb) : w0.heap.size ≤ gb215)); have n7_ := Aside0.mk ((by rw [hg]; exact Nat.ne_of_lt (blk_lt (g := gb214) (o := .cells #[.complex .f32 a0_0.re a0_0.im, .complex .f32 a0_1.re a0_1.im, .complex .f32 a0_2.re a0_2.im, .slice Ao4 l0_3.length co4] 42 (0, 0)) (bu BK214.out)) : gb214 ≠ gb215)); have n8_ := Aside0.mk ((by rw [hg]; exact Nat.ne_of_gt (blk_lt (g := gb214) (o := .cells #[.complex .f32 a0_0.re a0_0.im, .complex .f32 a0_1.re a0_1.im, .complex .f32 a0_2.re a0_2.im, .slice Ao4 l0_3.length co4] 42 (0, 0)) (bu BK214.out)) : gb215 ≠ gb214)); clear HO0_3; clear BK214; clear HK; clear HB; have HO0_3 := n0_; have BK214 := n1_; have HK := n2_; have HB := n3_; have BK215 := n4_; have GW215 := n5_; have GE215 := n6_; have NB214_215 := n7_; have NB215_214 := n8_; clear n0_ n1_ n2_ n3_ n4_ n5_ n6_ n7_ n8_; clear hb hbox hg; have hnb7 := NB214_215.out; have hnc7 := NB215_214.out; have hcz8_0 : w6.cell? ⟨gb214, 0, none⟩ = some (.complex .f32 a0_0.re a0_0.im) := (blk_cell BK214.out 0).trans rfl; have hcz8_1 : w6.cell? ⟨gb214, 1, none⟩ = some (.complex .f32 a0_1.re a0_1.im) := (blk_cell BK214.out 1).trans rfl; have hcz8_2 : w6.cell? ⟨gb214, 2, none⟩ = some (.complex .f32 a0_2.re a0_2.im) := (blk_cell BK214.out 2).trans rfl; have hcz8_3 : w6.cell? ⟨gb214, 3, none⟩ = some (.slice Ao4 l0_3.length co4) := (blk_cell BK214.out 3).trans rfl; have hfz8_0 := blk_frozen BK214.out 0; have hfz8_1 := blk_frozen BK214.out 1; have hfz8_2 := blk_frozen BK214.out 2; have hfz8_3 := blk_frozen BK214.out 3) | ((with_reducible refine gate_callee (f := 34) rfl ?_); refine gx_ (some 5) Try.func34 #[.agg #[.complex .f32 a0_0.re a0_0.im, .complex .f32 a0_1.re a0_1.im, .complex .f32 a0_2.re a0_2.im, .slice Ao4 l0_3.length co4]] ?_; (with_reducible refine (impl_ValidFeeder.calls k a0_0 a0_1 a0_2 _ _ l0_3 true _ ?side1 ?side2 A2.out).mono ?_); (case side1 => exact cu ((Kd.R_reads' HO0_3.out).2.2)); (case side2 => exact (Kd.R_reads' HO0_3.out).2.1); rintro e w9 ⟨rfl, hb⟩; refine ⟨_, rfl, ?_⟩; have n0_ := Aside0.mk (Kd.R_below (ru HO0_3.out) hb); have n1_ := Aside0.mk (blk_below (g := gb214) (o := .cells #[.complex .f32 a0_0.re a0_0.im, .complex .f32 a0_1.re a0_1.im, .complex .f32 a0_2.re a0_2.im, .slice Ao4 l0_3.length co4] 42 (0, 0)) (bu BK214.out) hb); have n2_ := Aside0.mk (blk_below (g := gb215) (o := .cells #[.complex .f32 0 0, .complex .f32 0 0, .complex .f32 0 0, .slice none 0 0] 42 (0, 0)) (bu BK215.out) hb); have n3_ := Aside0.mk (Kept.below (S := (fun k_ => P0_3_ k_)) (by repeat (first | (with_reducible first | exact HK.out | apply Kept.alloc | apply Kept.drewN | apply Kept.drew | refine Kept.setCell ?_ (.inr GW214.out) _ | refine Kept.setCell ?_ (.inr GW215.out) _) | exact HK.out)) hb); have n4_ := Aside0.mk (below_step tb hb); clear HO0_3; clear BK214; clear BK215; clear HK; clear HB; have HO0_3 := n0_; have BK214 := n1_; have BK215 := n2_; have HK := n3_; have HB := n4_; clear n0_ n1_ n2_ n3_ n4_; (try clear hb); (try clear hb2); (try clear hk); (try clear hi); have hcz10_0 : w9.cell? ⟨gb214, 0, none⟩ = some (.complex .f32 a0_0.re a0_0.im) := (blk_cell BK214.out 0).trans rfl; have hcz10_1 : w9.cell? ⟨gb214, 1, none⟩ = some (.complex .f32 a0_1.re a0_1.im) := (blk_cell BK214.out 1).trans rfl; have hcz10_2 : w9.cell? ⟨gb214, 2, none⟩ = some (.complex .f32 a0_2.re a0_2.im) := (blk_cell BK214.out 2).trans rfl; have hcz10_3 : w9.cell? ⟨gb214, 3, none⟩ = some (.slice Ao4 l0_3.length co4) := (blk_cell BK214.out 3).trans rfl; have hfz10_0 := blk_frozen BK214.out 0; have hfz10_1 := blk_frozen BK214.out 1; have hfz10_2 := blk_frozen BK214.out 2; have hfz10_3 := blk_frozen BK214.out 3; have hcz11_0 : w9.cell? ⟨gb215, 0, none⟩ = some (.complex .f32 0 0) := (blk_cell BK215.out 0).trans rfl; have hcz11_1 : w9.cell? ⟨gb215, 1, none⟩ = some (.complex .f32 0 0) := (blk_cell BK215.out 1).trans rfl; have hcz11_2 : w9.cell? ⟨gb215, 2, none⟩ = some (.complex .f32 0 0) := (blk_cell BK215.out 2).trans rfl; have hcz11_3 : w9.cell? ⟨gb215, 3, none⟩ = some (.slice none 0 0) := (blk_cell BK215.out 3).trans rfl; have hfz11_0 := blk_frozen BK215.out 0; have hfz11_1 := blk_frozen BK215.out 1; have hfz11_2 := blk_frozen BK215.out 2; have hfz11_3 := blk_frozen BK215.out 3))
  refine bodyPost_ret (results_ct rfl _ _ gb215 42 #[.complex .f32 a0_0.re a0_0.im, .complex .f32 a0_1.re a0_1.im, .complex .f32 a0_2.re a0_2.im, .slice Ao4 l0_3.length co4] (0, 0) _ rfl (by refine bu ?_; refine blk_put (cs := #[.complex .f32 a0_0.re a0_0.im, .complex .f32 a0_1.re a0_1.im, .complex .f32 a0_2.re a0_2.im, .slice none 0 0]) ?_ 3 _ rfl; refine bu ?_; refine blk_put (cs := #[.complex .f32 a0_0.re a0_0.im, .complex .f32 a0_1.re a0_1.im, .complex .f32 0 0, .slice none 0 0]) ?_ 2 _ rfl; refine bu ?_; refine blk_put (cs := #[.complex .f32 a0_0.re a0_0.im, .complex .f32 0 0, .complex .f32 0 0, .slice none 0 0]) ?_ 1 _ rfl; refine bu ?_; refine blk_put (cs := #[.complex .f32 0 0, .complex .f32 0 0, .complex .f32 0 0, .slice none 0 0]) ?_ 0 _ rfl; refine bu ?_; exact BK215.out) Try.underlying42 rfl (by kernel_rfl)) rfl ?_
  exact ⟨_, re_, by refine ru ?_; exact Kd.R_mono (Kd.R_far (p := ⟨gb215, 3, none⟩) (Kd.R_far (p := ⟨gb215, 2, none⟩) (Kd.R_far (p := ⟨gb215, 1, none⟩) (Kd.R_far (p := ⟨gb215, 0, none⟩) (Kd.R_types HO0_3.out BK215.out (by decide)) (fun _ hk => hk.2) (.complex .f32 a0_0.re a0_0.im)) (fun _ hk => hk.2) (.complex .f32 a0_1.re a0_1.im)) (fun _ hk => hk.2) (.complex .f32 a0_2.re a0_2.im)) (fun _ hk => hk.2) (.slice Ao4 l0_3.length co4)) (fun _ hk => hk.1), tb, by repeat (first | (with_reducible first | exact HK.out | apply Kept.alloc | apply Kept.drewN | apply Kept.drew | refine Kept.setCell ?_ (.inr GW214.out) _ | refine Kept.setCell ?_ (.inr GW215.out) _) | exact HK.out)⟩
 ·replace c3 := Bool.eq_false_iff.mpr c3
  subst c3
  have H1 : (some ((⟨0, 0⟩ : Cx), (⟨0, 0⟩ : Cx), (⟨0, 0⟩ : Cx), ([] : List (S66)), false)) = some (r1, r2, r3, r4, r5) := by rw [if_neg (show ¬ (false = true) by decide)] at H; exact H
  clear H
  have H := H1
  clear H1
  simp only [Option.some.injEq, Prod.mk.injEq] at H
  obtain ⟨rfl, rfl, rfl, rfl, rfl⟩ := H
  obtain ⟨Ao12, co12, eo12⟩ := Kd.R_slice HO0_3.out
  subst eo12
  go_enter Try.func96, Try.ntmps96
  go_wp2_with (first | ((with_reducible refine gate_dst (N := 1) rfl ?_); refine box_event ?hg (N := 1) ?hd (cs := #[.complex .f32 a0_0.re a0_0.im, .complex .f32 a0_1.re a0_1.im, .complex .f32 a0_2.re a0_2.im, .slice Ao12 l0_3.length co12]) (t := 42) ?hr ?_; (case hd => rfl); (case hg => rfl); (case hr => first | (go_simp; done) | (go_simp; rfl)); intro gb214 hg w13 hbox hb; have n0_ := Aside0.mk (Kd.R_below (ru HO0_3.out) hb); have n1_ := Aside0.mk (Kept.below (S := (fun k_ => P0_3_ k_)) (by repeat (first | (with_reducible first | exact HK.out | apply Kept.alloc | apply Kept.drewN | apply Kept.drew) | exact HK.out)) hb); have n2_ := Aside0.mk (below_step tb hb); have n3_ := Aside0.mk (hbox); have n4_ := Aside0.mk ((by rw [hg]; exact (by first | exact HK.out.1 | exact (show Kept w _ (fun k_ => P0_3_ k_) from by repeat (first | (with_reducible first | exact HK.out | apply Kept.alloc | apply Kept.drewN | apply Kept.drew) | exact HK.out)).1) : w.heap.size ≤ gb214)); have n5_ := Aside0.mk ((by rw [hg]; exact (below_size tb) : w0.heap.size ≤ gb214)); clear HO0_3; clear HK; clear HB; have HO0_3 := n0_; have HK := n1_; have HB := n2_; have BK214 := n3_; have GW214 := n4_; have GE214 := n5_; clear n0_ n1_ n2_ n3_ n4_ n5_; clear hb hbox hg) | ((with_reducible refine gate_dst (N := 2) rfl ?_); refine box_event ?hg (N := 2) ?hd (cs := #[.complex .f32 0 0, .complex .f32 0 0, .complex .f32 0 0, .slice none 0 0]) (t := 42) ?hr ?_; (case hd => rfl); (case hg => rfl); (case hr => first | (go_simp; done) | (go_simp; rfl)); intro gb215 hg w14 hbox hb; have n0_ := Aside0.mk (Kd.R_below (ru HO0_3.out) hb); have n1_ := Aside0.mk (blk_below (g := gb214) (o := .cells #[.complex .f32 a0_0.re a0_0.im, .complex .f32 a0_1.re a0_1.im, .complex .f32 a0_2.re a0_2.im, .slice Ao12 l0_3.length co12] 42 (0, 0)) (bu BK214.out) hb); have n2_ := Aside0.mk (Kept.below (S := (fun k_ => P0_3_ k_)) (by repeat (first | (with_reducible first | exact HK.out | apply Kept.alloc | apply Kept.drewN | apply Kept.drew | refine Kept.setCell ?_ (.inr GW214.out) _) | exact HK.out)) hb); have n3_ := Aside0.mk (below_step tb hb); have n4_ := Aside0.mk (hbox); have n5_ := Aside0.mk ((by rw [hg]; exact (by first | exact HK.out.1 | exact (show Kept w _ (fun k_ => P0_3_ k_) from by repeat (first | (with_reducible first | exact HK.out | apply Kept.alloc | apply Kept.drewN | apply Kept.drew | refine Kept.setCell ?_ (.inr GW214.out) _) | exact HK.out)).1) : w.heap.size ≤ gb215)); have n6_ := Aside0.mk ((by rw [hg]; exact (below_size tb) : w0.heap.size ≤ gb215)); have n7_ := Aside0.mk ((by rw [hg]; exact Nat.ne_of_lt (blk_lt (g := gb214) (o := .cells #[.complex .f32 a0_0.re a0_0.im, .complex .f32 a0_1.re a0_1.im, .complex .f32 a0_2.re a0_2.im, .slice Ao12 l0_3.length co12] 42 (0, 0)) (bu BK214.out)) : gb214 ≠ gb215)); have n8_ := Aside0.mk ((by rw [hg]; exact Nat.ne_of_gt (blk_lt (g := gb214) (o := .cells #[.complex .f32 a0_0.re a0_0.im, .complex .f32 a0_1.re a0_1.im, .complex .f32 a0_2.re a0_2.im, .slice Ao12 l0_3.length co12] 42 (0, 0)) (bu BK214.out)) : gb215 ≠ gb214)); clear HO0_3; clear BK214; clear HK; clear HB; have HO0_3 := n0_; have BK214 := n1_; have HK := n2_; have HB := n3_; have BK215 := n4_; have GW215 := n5_; have GE215 := n6_; have NB214_215 := n7_; have NB215_214 := n8_; clear n0_ n1_ n2_ n3_ n4_ n5_ n6_ n7_ n8_; clear hb hbox hg; have hnb15 := NB214_215.out; have hnc15 := NB215_214.out; have hcz16_0 : w14.cell? ⟨gb214, 0, none⟩ = some (.complex .f32 a0_0.re a0_0.im) := (blk_cell BK214.out 0).trans rfl; have hcz16_1 : w14.cell? ⟨gb214, 1, none⟩ = some (.complex .f32 a0_1.re a0_1.im) := (blk_cell BK214.out 1).trans rfl; have hcz16_2 : w14.cell? ⟨gb214, 2, none⟩ = some (.complex .f32 a0_2.re a0_2.im) := (blk_cell BK214.out 2).trans rfl; have hcz16_3 : w14.cell? ⟨gb214, 3, none⟩ = some (.slice Ao12 l0_3.length co12) := (blk_cell BK214.out 3).trans rfl; have hfz16_0 := blk_frozen BK214.out 0; have hfz16_1 := blk_frozen BK214.out 1; have hfz16_2 := blk_frozen BK214.out 2; have hfz16_3 := blk_frozen BK214.out 3) | ((with_reducible refine gate_callee (f := 34) rfl ?_); refine gx_ (some 5) Try.func34 #[.agg #[.complex .f32 a0_0.re a0_0.im, .complex .f32 a0_1.re a0_1.im, .complex .f32 a0_2.re a0_2.im, .slice Ao12 l0_3.length co12]] ?_; (with_reducible refine (impl_ValidFeeder.calls k a0_0 a0_1 a0_2 _ _ l0_3 false _ ?side1 ?side2 A2.out).mono ?_); (case side1 => exact cu ((Kd.R_reads' HO0_3.out).2.2)); (case side2 => exact (Kd.R_reads' HO0_3.out).2.1); rintro e w17 ⟨rfl, hb⟩; refine ⟨_, rfl, ?_⟩; have n0_ := Aside0.mk (Kd.R_below (ru HO0_3.out) hb); have n1_ := Aside0.mk (blk_below (g := gb214) (o := .cells #[.complex .f32 a0_0.re a0_0.im, .complex .f32 a0_1.re a0_1.im, .complex .f32 a0_2.re a0_2.im, .slice Ao12 l0_3.length co12] 42 (0, 0)) (bu BK214.out) hb); have n2_ := Aside0.mk (blk_below (g := gb215) (o := .cells #[.complex .f32 0 0, .complex .f32 0 0, .complex .f32 0 0, .slice none 0 0] 42 (0, 0)) (bu BK215.out) hb); have n3_ := Aside0.mk (Kept.below (S := (fun k_ => P0_3_ k_)) (by repeat (first | (with_reducible first | exact HK.out | apply Kept.alloc | apply Kept.drewN | apply Kept.drew | refine Kept.setCell ?_ (.inr GW214.out) _ | refine Kept.setCell ?_ (.inr GW215.out) _) | exact HK.out)) hb); have n4_ := Aside0.mk (below_step tb hb); clear HO0_3; clear BK214; clear BK215; clear HK; clear HB; have HO0_3 := n0_; have BK214 := n1_; have BK215 := n2_; have HK := n3_; have HB := n4_; clear n0_ n1_ n2_ n3_ n4_; (try clear hb); (try clear hb2); (try clear hk); (try clear hi); have hcz18_0 : w17.cell? ⟨gb215, 0, none⟩ = some (.complex .f32 0 0) := (blk_cell BK215.out 0).trans rfl; have hcz18_1 : w17.cell? ⟨gb215, 1, none⟩ = some (.complex .f32 0 0) := (blk_cell BK215.out 1).trans rfl; have hcz18_2 : w17.cell? ⟨gb215, 2, none⟩ = some (.complex .f32 0 0) := (blk_cell BK215.out 2).trans rfl; have hcz18_3 : w17.cell? ⟨gb215, 3, none⟩ = some (.slice none 0 0) := (blk_cell BK215.out 3).trans rfl; have hfz18_0 := blk_frozen BK215.out 0; have hfz18_1 := blk_frozen BK215.out 1; have hfz18_2 := blk_frozen BK215.out 2; have hfz18_3 := blk_frozen BK215.out 3))
  refine bodyPost_ret (results_ct rfl _ _ gb215 42 #[.complex .f32 0 0, .complex .f32 0 0, .complex .f32 0 0, .slice none 0 0] (0, 0) _ rfl (by refine bu ?_; refine blk_put (cs := #[.complex .f32 0 0, .complex .f32 0 0, .complex .f32 0 0, .slice none 0 0]) ?_ 3 _ rfl; refine bu ?_; refine blk_put (cs := #[.complex .f32 0 0, .complex .f32 0 0, .complex .f32 0 0, .slice none 0 0]) ?_ 2 _ rfl; refine bu ?_; refine blk_put (cs := #[.complex .f32 0 0, .complex .f32 0 0, .complex .f32 0 0, .slice none 0 0]) ?_ 1 _ rfl; refine bu ?_; refine blk_put (cs := #[.complex .f32 0 0, .complex .f32 0 0, .complex .f32 0 0, .slice none 0 0]) ?_ 0 _ rfl; refine bu ?_; exact BK215.out) Try.underlying42 rfl (by kernel_rfl)) rfl ?_
  exact ⟨_, re_, by first | exact Kd.R_nil _ _ _ _ _ | exact Kd.N_nil _ _ _ _ _ | exact Kd.V_nil _ _ _ _ _ | exact Kd.Q_nil _ _ _ _ _ | exact Kd.S_nil _ _ _ _ _, tb, by repeat (first | (with_reducible first | exact HK.out | apply Kept.alloc | apply Kept.drewN | apply Kept.drew | refine Kept.setCell ?_ (.inr GW214.out) _ | refine Kept.setCell ?_ (.inr GW215.out) _) | exact HK.out)⟩

end Go.Proofs.Ytcgpomicgbmdlaa.PFnBanks
