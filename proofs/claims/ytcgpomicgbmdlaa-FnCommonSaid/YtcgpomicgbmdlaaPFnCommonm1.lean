-- Words and walks of the print, as far as this claim uses them (laid by wip/mkclaim.py of this session). Lean checks it.
import Derived.Test.YtcgpomicgbmdlaaFl
import Derived.Test.YtcgpomicgbmdlaaPFnCommonm0
import Derived.Deep.RegionWith
import Derived.Deep.DeepMust
import Derived.Outline
namespace Go.Proofs.Ytcgpomicgbmdlaa.PFnCommon
open Go.RowKit Go.Proofs.YtcgpomicgbmdlaaW.PrintWords Go.Proofs.YtcgpomicgbmdlaaW.PrintLast Go.Proofs.YtcgpomicgbmdlaaW.PrintMore
attribute [local go_sem] max2_int min2_int max_two min_two max_three min_three max_four min_four   -- for this text's walks alone
set_option linter.unusedVariables false
set_option linter.unusedSimpArgs false

/-! ### spec_l02Even: function 89 -/
def spec_l02Even.f (k : Nat) (a0 : Cx) : Option (Cx × Cx × Cx) := (spec_l01Phasor.f k (fneg .f64 4599676419421066581)).bind fun t132 => ((spec_l01Mul.f a0 t132).bind fun t133 => ((spec_l01Phasor.f k 4599676419421066581).bind fun t134 => ((spec_l01Mul.f a0 t134).bind fun t135 => (some (a0, t133, t135)))))
theorem spec_l02Even.mono : ∀ a0 k, LeO (spec_l02Even.f k a0) (spec_l02Even.f (k + 1) a0) := by
 intro a0 k
 unfold spec_l02Even.f
 repeat' first
   | (with_reducible exact spec_l01Phasor.mono _ _)
   | (with_reducible exact LeO.refl _)
   | (with_reducible exact LeO.none _)
   | (with_reducible refine LeO.ite ?_ ?_)
   | (with_reducible refine LeO.bind ?_ (fun _ => ?_))
   | exact spec_l01Phasor.mono _ _
   | exact LeO.none _
   | refine LeO.ite ?_ ?_
   | refine LeO.bind ?_ (fun _ => ?_)
set_option maxHeartbeats 8000000 in
set_option maxRecDepth 100000 in
theorem spec_l02Even.calls (k : Nat) (a0 : Cx) (r1 : Cx) (r2 : Cx) (r3 : Cx) (w : World) (h : spec_l02Even.f k a0 = some (r1, r2, r3)) :
  Calls Try.prog 89 #[.complex .f32 a0.re a0.im] w fun e w' => e = .returned (.agg #[.complex .f32 r1.re r1.im, .complex .f32 r2.re r2.im, .complex .f32 r3.re r3.im]) ∧ Below w.heap.size w w' := by
 have hu39 := Try.underlying39
 have HB := Aside0.mk (Below.refl w.heap.size w)
 have H : ((spec_l01Phasor.f k (fneg .f64 4599676419421066581)).bind fun t132 => ((spec_l01Mul.f a0 t132).bind fun t133 => ((spec_l01Phasor.f k 4599676419421066581).bind fun t134 => ((spec_l01Mul.f a0 t134).bind fun t135 => (some (a0, t133, t135)))))) = some (r1, r2, r3) := h
 clear h
 replace H := Option.bind_eq_some_iff.mp H
 obtain ⟨t132, A20, H⟩ := H
 try dsimp only at H
 have A2 := Aside0.mk A20
 clear A20
 replace H := Option.bind_eq_some_iff.mp H
 obtain ⟨t133, A30, H⟩ := H
 try dsimp only at H
 have A3 := Aside0.mk A30
 clear A30
 replace H := Option.bind_eq_some_iff.mp H
 obtain ⟨t134, A40, H⟩ := H
 try dsimp only at H
 have A4 := Aside0.mk A40
 clear A40
 replace H := Option.bind_eq_some_iff.mp H
 obtain ⟨t135, A50, H⟩ := H
 try dsimp only at H
 have A5 := Aside0.mk A50
 clear A50
 simp only [Option.some.injEq, Prod.mk.injEq] at H
 obtain ⟨rfl, rfl, rfl⟩ := H
 go_enter Try.func89, Try.ntmps89
 go_wp2_with (first | ((with_reducible refine gate_dst (N := 2) rfl ?_); refine box_event ?hg (N := 2) ?hd (cs := #[.complex .f32 0 0, .complex .f32 0 0, .complex .f32 0 0]) (t := 39) ?hr ?_; (case hd => rfl); (case hg => rfl); (case hr => first | (go_simp; done) | (go_simp; rfl)); intro gb131 hg w6 hbox hb; have n0_ := Aside0.mk (below_step tb hb); have n1_ := Aside0.mk (hbox); have n2_ := Aside0.mk ((by rw [hg]; exact (below_size tb) : w.heap.size ≤ gb131)); have n3_ := Aside0.mk ((by rw [hg]; exact (below_size tb) : w.heap.size ≤ gb131)); clear HB; have HB := n0_; have BK131 := n1_; have GW131 := n2_; have GE131 := n3_; clear n0_ n1_ n2_ n3_; clear hb hbox hg) | ((with_reducible refine gate_callee (f := 138) rfl ?_); refine gx_ (some 8) Try.func138 #[.float .f64 (fneg .f64 4599676419421066581)] ?_; (with_reducible refine (spec_l01Phasor.calls k (fneg .f64 4599676419421066581) t132 _ A2.out).mono ?_); rintro e w7 ⟨rfl, hb⟩; refine ⟨_, rfl, ?_⟩; have n0_ := Aside0.mk (blk_below (g := gb131) (o := .cells #[.complex .f32 0 0, .complex .f32 0 0, .complex .f32 0 0] 39 (0, 0)) (bu BK131.out) hb); have n1_ := Aside0.mk (below_step tb hb); clear BK131; clear HB; have BK131 := n0_; have HB := n1_; clear n0_ n1_; (try clear hb); (try clear hb2); (try clear hk); (try clear hi)) | ((with_reducible refine gate_callee (f := 67) rfl ?_); refine gx_ (some 9) Try.func67 #[.complex .f32 a0.re a0.im, .complex .f32 t132.re t132.im] ?_; (with_reducible refine (spec_l01Mul.calls a0 t132 t133 _ A3.out).mono ?_); rintro e w8 ⟨rfl, hb⟩; refine ⟨_, rfl, ?_⟩; have n0_ := Aside0.mk (blk_below (g := gb131) (o := .cells #[.complex .f32 0 0, .complex .f32 0 0, .complex .f32 0 0] 39 (0, 0)) (bu BK131.out) hb); have n1_ := Aside0.mk (below_step tb hb); clear BK131; clear HB; have BK131 := n0_; have HB := n1_; clear n0_ n1_; (try clear hb); (try clear hb2); (try clear hk); (try clear hi)) | ((with_reducible refine gate_callee (f := 138) rfl ?_); refine gx_ (some 12) Try.func138 #[.float .f64 4599676419421066581] ?_; (with_reducible refine (spec_l01Phasor.calls k 4599676419421066581 t134 _ A4.out).mono ?_); rintro e w9 ⟨rfl, hb⟩; refine ⟨_, rfl, ?_⟩; have n0_ := Aside0.mk (blk_below (g := gb131) (o := .cells #[.complex .f32 0 0, .complex .f32 0 0, .complex .f32 0 0] 39 (0, 0)) (bu BK131.out) hb); have n1_ := Aside0.mk (below_step tb hb); clear BK131; clear HB; have BK131 := n0_; have HB := n1_; clear n0_ n1_; (try clear hb); (try clear hb2); (try clear hk); (try clear hi)) | ((with_reducible refine gate_callee (f := 67) rfl ?_); refine gx_ (some 13) Try.func67 #[.complex .f32 a0.re a0.im, .complex .f32 t134.re t134.im] ?_; (with_reducible refine (spec_l01Mul.calls a0 t134 t135 _ A5.out).mono ?_); rintro e w10 ⟨rfl, hb⟩; refine ⟨_, rfl, ?_⟩; have n0_ := Aside0.mk (blk_below (g := gb131) (o := .cells #[.complex .f32 0 0, .complex .f32 0 0, .complex .f32 0 0] 39 (0, 0)) (bu BK131.out) hb); have n1_ := Aside0.mk (below_step tb hb); clear BK131; clear HB; have BK131 := n0_; have HB := n1_; clear n0_ n1_; (try clear hb); (try clear hb2); (try clear hk); (try clear hi); have hcz11_0 : w10.cell? ⟨gb131, 0, none⟩ = some (.complex .f32 0 0) := (blk_cell BK131.out 0).trans rfl; have hcz11_1 : w10.cell? ⟨gb131, 1, none⟩ = some (.complex .f32 0 0) := (blk_cell BK131.out 1).trans rfl; have hcz11_2 : w10.cell? ⟨gb131, 2, none⟩ = some (.complex .f32 0 0) := (blk_cell BK131.out 2).trans rfl; have hfz11_0 := blk_frozen BK131.out 0; have hfz11_1 := blk_frozen BK131.out 1; have hfz11_2 := blk_frozen BK131.out 2))
 refine bodyPost_ret (results_cell_row rfl _ _ gb131 39 #[.complex .f32 a0.re a0.im, .complex .f32 t133.re t133.im, .complex .f32 t135.re t135.im] (0, 0) _ rfl (by refine bu ?_; refine blk_put (cs := #[.complex .f32 a0.re a0.im, .complex .f32 t133.re t133.im, .complex .f32 0 0]) ?_ 2 _ rfl; refine bu ?_; refine blk_put (cs := #[.complex .f32 a0.re a0.im, .complex .f32 0 0, .complex .f32 0 0]) ?_ 1 _ rfl; refine bu ?_; refine blk_put (cs := #[.complex .f32 0 0, .complex .f32 0 0, .complex .f32 0 0]) ?_ 0 _ rfl; refine bu ?_; exact BK131.out) Try.underlying39 rfl (by kernel_rfl)) rfl ?_
 exact ⟨re_, tb⟩

end Go.Proofs.Ytcgpomicgbmdlaa.PFnCommon
namespace Go.Proofs.Ytcgpomicgbmdlaa.PFnCommon
open Go.RowKit Go.Proofs.YtcgpomicgbmdlaaW.PrintWords Go.Proofs.YtcgpomicgbmdlaaW.PrintLast Go.Proofs.YtcgpomicgbmdlaaW.PrintMore
attribute [local go_sem] max2_int min2_int max_two min_two max_three min_three max_four min_four   -- for this text's walks alone
set_option linter.unusedVariables false
set_option linter.unusedSimpArgs false

/-! ### spec_R8Number: function 110 -/
def spec_R8Number.f (l0 : List Int) (a1 : Int) : Option (Cx) := if a1 < (l0.length : Int) then (if 0 ≤ a1 then (if fok .quo .f32 (floatOfInt .f32 (wrap64 ((Int.tmod (wrap64 (rd l0 a1)) 33) - 16))) 1098907648 = true then (if fok .quo .f32 (floatOfInt .f32 (wrap64 ((wrap64 (Int.tdiv (wrap64 (rd l0 a1)) 33)) - 3))) 1098907648 = true then (some (⟨fv .quo .f32 (floatOfInt .f32 (wrap64 ((Int.tmod (wrap64 (rd l0 a1)) 33) - 16))) 1098907648, fv .quo .f32 (floatOfInt .f32 (wrap64 ((wrap64 (Int.tdiv (wrap64 (rd l0 a1)) 33)) - 3))) 1098907648⟩ : Cx)) else (none)) else (none)) else (none)) else (if fok .quo .f32 (floatOfInt .f32 3) 1098907648 = true then (if fok .quo .f32 (floatOfInt .f32 (-2)) 1098907648 = true then (some (⟨fv .quo .f32 (floatOfInt .f32 3) 1098907648, fv .quo .f32 (floatOfInt .f32 (-2)) 1098907648⟩ : Cx)) else (none)) else (none))
set_option maxHeartbeats 8000000 in
set_option maxRecDepth 100000 in
theorem spec_R8Number.calls (A0 : Option Addr) (c0 : Nat) (l0 : List Int) (a1 : Int) (r : Cx) (w : World) (hr0 : Kd.C (Kd.int .u8) w A0 l0.length l0) (hc0 : l0.length ≤ c0) (h : spec_R8Number.f l0 a1 = some r) :
  Calls Try.prog 110 #[.slice A0 l0.length c0, .int .i64 a1] w fun e w' => e = .returned (.complex .f32 r.re r.im) ∧ Below w.heap.size w w' := by
 have HR0 := Aside0.mk hr0
 have HC0 := Aside0.mk hc0
 clear hr0 hc0
 have HB := Aside0.mk (Below.refl w.heap.size w)
 have H : (if a1 < (l0.length : Int) then (if 0 ≤ a1 then (if fok .quo .f32 (floatOfInt .f32 (wrap64 ((Int.tmod (wrap64 (rd l0 a1)) 33) - 16))) 1098907648 = true then (if fok .quo .f32 (floatOfInt .f32 (wrap64 ((wrap64 (Int.tdiv (wrap64 (rd l0 a1)) 33)) - 3))) 1098907648 = true then (some (⟨fv .quo .f32 (floatOfInt .f32 (wrap64 ((Int.tmod (wrap64 (rd l0 a1)) 33) - 16))) 1098907648, fv .quo .f32 (floatOfInt .f32 (wrap64 ((wrap64 (Int.tdiv (wrap64 (rd l0 a1)) 33)) - 3))) 1098907648⟩ : Cx)) else (none)) else (none)) else (none)) else (if fok .quo .f32 (floatOfInt .f32 3) 1098907648 = true then (if fok .quo .f32 (floatOfInt .f32 (-2)) 1098907648 = true then (some (⟨fv .quo .f32 (floatOfInt .f32 3) 1098907648, fv .quo .f32 (floatOfInt .f32 (-2)) 1098907648⟩ : Cx)) else (none)) else (none))) = some r := h
 clear h
 by_cases c3 : a1 < (l0.length : Int)
 ·rw [if_pos c3] at H
  have c3b0 : decide (a1 < (l0.length : Int)) = true := decide_eq_true c3
  clear c3
  by_cases c4 : 0 ≤ a1
  ·rw [if_pos c4] at H
   have c4b0 : decide (0 ≤ a1) = true := decide_eq_true c4
   clear c4
   by_cases c5 : fok .quo .f32 (floatOfInt .f32 (wrap64 ((Int.tmod (wrap64 (rd l0 a1)) 33) - 16))) 1098907648 = true
   ·rw [if_pos c5] at H
    have c5b0 := eq_true c5
    have c5b1 : decide (fok .quo .f32 (floatOfInt .f32 (wrap64 ((Int.tmod (wrap64 (rd l0 a1)) 33) - 16))) 1098907648 = true) = true := decide_eq_true c5
    clear c5
    by_cases c6 : fok .quo .f32 (floatOfInt .f32 (wrap64 ((wrap64 (Int.tdiv (wrap64 (rd l0 a1)) 33)) - 3))) 1098907648 = true
    ·rw [if_pos c6] at H
     have c6b0 := eq_true c6
     have c6b1 : decide (fok .quo .f32 (floatOfInt .f32 (wrap64 ((wrap64 (Int.tdiv (wrap64 (rd l0 a1)) 33)) - 3))) 1098907648 = true) = true := decide_eq_true c6
     clear c6
     obtain rfl := Option.some.inj H
     have p136 : 0 ≤ (a1 : Int) := of_decide_eq_true (by first | (with_reducible assumption) | assumption)
     have q136 : a1 < (l0.length : Int) := of_decide_eq_true (by first | (with_reducible assumption) | assumption)
     obtain ⟨ad136, e136, hx136_0⟩ := Kd.at_int HR0.out a1 p136 q136
     cases e136
     replace p136 := eq_true p136
     replace q136 := eq_true q136
     have p137 : 0 ≤ (a1 : Int) := of_decide_eq_true (by first | (with_reducible assumption) | assumption)
     have q137 : a1 < (l0.length : Int) := of_decide_eq_true (by first | (with_reducible assumption) | assumption)
     obtain ⟨ad137, e137, hx137_0⟩ := Kd.at_int HR0.out a1 p137 q137
     obtain rfl : ad136 = ad137 := (by injection e137)
     replace p137 := eq_true p137
     replace q137 := eq_true q137
     go_enter Try.func110, Try.ntmps110
     go_wp2
     go_ret
     exact ⟨re_, tb⟩
    ·rw [if_neg c6] at H
     exact absurd H (by simp)
   ·rw [if_neg c5] at H
    exact absurd H (by simp)
  ·rw [if_neg c4] at H
   exact absurd H (by simp)
 ·rw [if_neg c3] at H
  have c3b0 : decide (a1 < (l0.length : Int)) = false := decide_eq_false c3
  clear c3
  by_cases c7 : fok .quo .f32 (floatOfInt .f32 3) 1098907648 = true
  ·rw [if_pos c7] at H
   have c7b0 := eq_true c7
   have c7b1 : decide (fok .quo .f32 (floatOfInt .f32 3) 1098907648 = true) = true := decide_eq_true c7
   clear c7
   by_cases c8 : fok .quo .f32 (floatOfInt .f32 (-2)) 1098907648 = true
   ·rw [if_pos c8] at H
    have c8b0 := eq_true c8
    have c8b1 : decide (fok .quo .f32 (floatOfInt .f32 (-2)) 1098907648 = true) = true := decide_eq_true c8
    clear c8
    obtain rfl := Option.some.inj H
    go_enter Try.func110, Try.ntmps110
    go_wp2
    go_ret
    exact ⟨re_, tb⟩
   ·rw [if_neg c8] at H
    exact absurd H (by simp)
  ·rw [if_neg c7] at H
   exact absurd H (by simp)

end Go.Proofs.Ytcgpomicgbmdlaa.PFnCommon
namespace Go.Proofs.Ytcgpomicgbmdlaa.PFnCommon
open Go.RowKit Go.Proofs.YtcgpomicgbmdlaaW.PrintWords Go.Proofs.YtcgpomicgbmdlaaW.PrintLast Go.Proofs.YtcgpomicgbmdlaaW.PrintMore
attribute [local go_sem] max2_int min2_int max_two min_two max_three min_three max_four min_four   -- for this text's walks alone
set_option linter.unusedVariables false
set_option linter.unusedSimpArgs false

/-! ### spec_r8Load: function 99 -/
-- MANUAL 0 1
-- IMPORT Derived.Deep.RegionWith
-- IMPORT Derived.Deep.DeepMust
-- IMPORT Derived.Outline
def spec_r8Load.f (s0_0 : List Int) (s0_1 : Int) (s0_2 : Int) : Option (Cx × Cx × Cx × Int × Int) :=
 (spec_l00Src_pick.f s0_0 s0_1 s0_2 40).bind fun b1 => (spec_R8Number.f s0_0 b1.1).bind fun t1 =>
 (spec_l00Src_pick.f s0_0 b1.2.1 b1.2.2 40).bind fun b2 => (spec_R8Number.f s0_0 b2.1).bind fun t2 =>
 (spec_l00Src_pick.f s0_0 b2.2.1 b2.2.2 40).bind fun b3 => (spec_R8Number.f s0_0 b3.1).bind fun t3 => some (t1, t2, t3, b3.2.1, b3.2.2)
/-- What holds of the world while a load is drawn: the source's state, the result's variable (still empty). -/
structure R8St (w0 w W : World) (g gb : Nat) (l : List Int) (at_ seed : Int) : Prop where
 st : IsS150 w0 W g l at_ seed
 hb : Below w0.heap.size w0 W
 hk : KeepBut w W g none
 hz : W.heap[gb]? = some (.cells #[.complex .f32 0 0, .complex .f32 0 0, .complex .f32 0 0] 39 (0, 0))
 hge : w.heap.size ≤ gb
 hlt : g < w.heap.size
section
variable {w0 w W W' : World} {g gb : Nat} {l : List Int} {a s a' s' : Int}
theorem R8St.ne (h : R8St w0 w W g gb l a s) : gb ≠ g := by have := h.hge; have := h.hlt; omega
theorem R8St.alloc (h : R8St w0 w W g gb l a s) (o : Obj) : R8St w0 w (W.alloc o) g gb l a s := ⟨h.st.alloc o, below_alloc h.hb o, keep_alloc h.hk o, blk_alloc h.hz o, h.hge, h.hlt⟩
theorem R8St.drew (h : R8St w0 w W g gb l a s) : R8St w0 w W.drew g gb l a s := ⟨h.st.drew, below_drew1 h.hb, keep_drew h.hk, h.hz, h.hge, h.hlt⟩
theorem R8St.drewN (h : R8St w0 w W g gb l a s) (n : Nat) : R8St w0 w (W.drewN n) g gb l a s := ⟨h.st.drewN n, pw_below_drewN h.hb n, keep_drewN h.hk n, h.hz, h.hge, h.hlt⟩
theorem R8St.pick (h : R8St w0 w W g gb l a s) (hi : IsS150 w0 W' g l a' s') (hb : Below w0.heap.size w0 W') (hk : KeepBut W W' g none) : R8St w0 w W' g gb l a' s' :=
 ⟨hi, hb, KeepBut.trans h.hk hk (.inl rfl), KeepBut.blk hk h.hz h.ne (by simp), h.hge, h.hlt⟩
theorem R8St.below (h : R8St w0 w W g gb l a s) (hb : Below W.heap.size W W') : R8St w0 w W' g gb l a s :=
 ⟨h.st.below hb, below_step h.hb hb, KeepBut.trans h.hk (KeepBut.of_below hb g none) (.inl rfl), blk_below h.hz hb, h.hge, h.hlt⟩
theorem R8St.set (h : R8St w0 w W g gb l a s) {b : Nat} (h1 : b ≠ g) (h2 : b ≠ gb) (h3 : w.heap.size ≤ b) (i : Nat) (u : Value) : R8St w0 w (W.setCell ⟨b, i, none⟩ u) g gb l a s :=
 ⟨h.st.far (p := ⟨b, i, none⟩) h1.symm u, below_set h.hb (Nat.le_trans (Nat.le_trans (IsS150.ge h.st) (Nat.le_of_lt h.hlt)) h3), keep_far h.hk h3 u, blk_far h.hz (p := ⟨b, i, none⟩) h2.symm u, h.hge, h.hlt⟩
theorem R8fin {b : Nat} {t : Cx} (h : R8St w0 w W g gb l a s) (hz : W.heap[b]? = some (.cells #[.complex .f32 0 0, .complex .f32 0 0, .complex .f32 0 0] 39 (0, 0))) (h1 : b ≠ g) (h2 : b ≠ gb) (h3 : w.heap.size ≤ b) :
  ∃ b3 : Nat, Value.pointer (some ⟨b, 0, none⟩) = .pointer (some ⟨b3, 0, none⟩) ∧ Aside0 (R8St w0 w (((W.setCell ⟨b, 0, none⟩ (.complex .f32 t.re t.im)).setCell ⟨b, 1, none⟩ (.complex .f32 0 0)).setCell ⟨b, 2, none⟩ (.complex .f32 0 0)) g gb l a s) ∧
   Aside0 ((((W.setCell ⟨b, 0, none⟩ (.complex .f32 t.re t.im)).setCell ⟨b, 1, none⟩ (.complex .f32 0 0)).setCell ⟨b, 2, none⟩ (.complex .f32 0 0)).heap[b3]? = some (.cells #[.complex .f32 t.re t.im, .complex .f32 0 0, .complex .f32 0 0] 39 (0, 0))) ∧ Aside0 (b3 ≠ g ∧ b3 ≠ gb ∧ w.heap.size ≤ b3) :=
 ⟨b, rfl, ⟨((h.set h1 h2 h3 0 _).set h1 h2 h3 1 _).set h1 h2 h3 2 _⟩, ⟨by simpa using blk_set (blk_set (blk_set hz 0 (.complex .f32 t.re t.im)) 1 (.complex .f32 0 0)) 2 (.complex .f32 0 0)⟩, ⟨h1, h2, h3⟩⟩
theorem R8fin2 {t : Cx} (h : R8St w0 w W g gb l a s) :
  ∃ b3 : Nat, Value.pointer (some ⟨W.heap.size, 0, none⟩) = .pointer (some ⟨b3, 0, none⟩) ∧ Aside0 (R8St w0 w (W.alloc (.cells #[.complex .f32 t.re t.im, .complex .f32 0 0, .complex .f32 0 0] 39)) g gb l a s) ∧
   Aside0 ((W.alloc (.cells #[.complex .f32 t.re t.im, .complex .f32 0 0, .complex .f32 0 0] 39)).heap[b3]? = some (.cells #[.complex .f32 t.re t.im, .complex .f32 0 0, .complex .f32 0 0] 39 (0, 0))) ∧ Aside0 (b3 ≠ g ∧ b3 ≠ gb ∧ w.heap.size ≤ b3) :=
 ⟨W.heap.size, rfl, ⟨h.alloc _⟩, ⟨by simpa using heap_alloc_new W _⟩, ⟨Nat.ne_of_gt (IsS150.lt h.st), Nat.ne_of_gt (blk_lt h.hz), h.hk.1⟩⟩
theorem R8end (h : R8St w0 w W g gb l a s) (u0 u1 u2 : Value) {e : Ending} {E : Ending} (he : e = E) :
  e = E ∧ IsS150 w0 (((W.setCell ⟨gb, 0, none⟩ u0).setCell ⟨gb, 1, none⟩ u1).setCell ⟨gb, 2, none⟩ u2) g l a s ∧ Below w0.heap.size w0 (((W.setCell ⟨gb, 0, none⟩ u0).setCell ⟨gb, 1, none⟩ u1).setCell ⟨gb, 2, none⟩ u2) ∧ KeepBut w (((W.setCell ⟨gb, 0, none⟩ u0).setCell ⟨gb, 1, none⟩ u1).setCell ⟨gb, 2, none⟩ u2) g none :=
 have hle : w0.heap.size ≤ gb := Nat.le_trans (Nat.le_trans (IsS150.ge h.st) (Nat.le_of_lt h.hlt)) h.hge
 ⟨he, ((h.st.far (p := ⟨gb, 0, none⟩) h.ne.symm u0).far (p := ⟨gb, 1, none⟩) h.ne.symm u1).far (p := ⟨gb, 2, none⟩) h.ne.symm u2, below_set (below_set (below_set h.hb hle) hle) hle, keep_far (keep_far (keep_far h.hk h.hge u0) h.hge u1) h.hge u2⟩
end
theorem below_rule {W w3 : World} (hk : Below W.heap.size W w3) : ∀ b o, b < W.heap.size → w3.cell? ⟨b, o, none⟩ = W.cell? ⟨b, o, none⟩ :=
 fun b o hlt => hk.cell (p := ⟨b, o, none⟩) hlt
theorem below_rule2 {W w3 : World} (hk : Below W.heap.size W w3) : ∀ b o, b < W.heap.size → w3.frozen? ⟨b, o, none⟩ = W.frozen? ⟨b, o, none⟩ :=
 fun b o hlt => hk.frozen (p := ⟨b, o, none⟩) hlt
theorem keep_rule {W w3 : World} {g : Nat} (hk : KeepBut W w3 g none) : ∀ b o, b ≠ g → b < W.heap.size → w3.cell? ⟨b, o, none⟩ = W.cell? ⟨b, o, none⟩ :=
 fun b o hne hlt => World.cell?_of_block (hk.2 b hlt hne (by simp))
theorem keep_rule2 {W w3 : World} {g : Nat} (hk : KeepBut W w3 g none) : ∀ b o, b ≠ g → b < W.heap.size → w3.frozen? ⟨b, o, none⟩ = W.frozen? ⟨b, o, none⟩ :=
 fun b o hne hlt => by
  have := hk.2 b hlt hne (by simp)
  simp [World.frozen?, this]
set_option maxHeartbeats 8000000 in
set_option maxRecDepth 100000 in
theorem spec_r8Load.calls (g : Nat) (s0_0 : List Int) (s0_1 : Int) (s0_2 : Int) (r1 : Cx) (r2 : Cx) (r3 : Cx) (r4 : Int) (r5 : Int) (w0 w : World) (hI : IsS150 w0 w g s0_0 s0_1 s0_2) (hB : Below w0.heap.size w0 w) (h : spec_r8Load.f s0_0 s0_1 s0_2 = some (r1, r2, r3, r4, r5)) :
  Calls Try.prog 99 #[.pointer (some ⟨g, 0, none⟩)] w fun e w' => e = .returned (.agg #[.complex .f32 r1.re r1.im, .complex .f32 r2.re r2.im, .complex .f32 r3.re r3.im]) ∧ IsS150 w0 w' g s0_0 r4 r5 ∧ Below w0.heap.size w0 w' ∧ KeepBut w w' g none := by
 unfold spec_r8Load.f at h
 replace h := Option.bind_eq_some_iff.mp h
 obtain ⟨⟨p1, q1, z1⟩, A1, h⟩ := h
 replace h := Option.bind_eq_some_iff.mp h
 obtain ⟨t1, B1, h⟩ := h
 replace h := Option.bind_eq_some_iff.mp h
 obtain ⟨⟨p2, q2, z2⟩, A2, h⟩ := h
 replace h := Option.bind_eq_some_iff.mp h
 obtain ⟨t2, B2, h⟩ := h
 replace h := Option.bind_eq_some_iff.mp h
 obtain ⟨⟨p3, q3, z3⟩, A3, h⟩ := h
 replace h := Option.bind_eq_some_iff.mp h
 obtain ⟨t3, B3, h⟩ := h
 simp only [Option.some.injEq, Prod.mk.injEq] at h
 obtain ⟨rfl, rfl, rfl, rfl, rfl⟩ := h
 dsimp only at A1 B1 A2 B2 A3 B3
 have HA1 := Aside0.mk A1; clear A1
 have HB1 := Aside0.mk B1; clear B1
 have HA2 := Aside0.mk A2; clear A2
 have HB2 := Aside0.mk B2; clear B2
 have HA3 := Aside0.mk A3; clear A3
 have HB3 := Aside0.mk B3; clear B3
 have HI := Aside0.mk hI; clear hI
 have HB := Aside0.mk hB; clear hB
 have hu39 := Try.underlying39
 have hu150 := Try.underlying150
 have HLT := Aside0.mk (IsS150.lt HI.out)
 go_enter Try.func99, Try.ntmps99
 go_upto_region 1 with (first | ((with_reducible refine gate_dst (N := 2) rfl ?_); refine box_event ?hg (N := 2) ?hd (cs := #[.complex .f32 0 0, .complex .f32 0 0, .complex .f32 0 0]) (t := 39) ?hr ?_; (case hd => rfl); (case hg => rfl); (case hr => first | (go_simp; done) | (go_simp; rfl)); intro gb hg w2 hbox hb; (have HS := Aside0.mk (R8St.mk (w := w) (IsS150.below HI.out hb) (below_step HB.out hb) (KeepBut.of_below hb g none) hbox (Nat.le_of_eq hg.symm) HLT.out)); clear hbox hb hg))
 try refine pt_ ?_
 go_cut [3] (fun v3 wc => ∃ b3 : Nat, v3 = .pointer (some ⟨b3, 0, none⟩) ∧ Aside0 (R8St w0 w wc g gb s0_0 q1 z1) ∧ Aside0 (wc.heap[b3]? = some (.cells #[.complex .f32 t1.re t1.im, .complex .f32 0 0, .complex .f32 0 0] 39 (0, 0))) ∧ Aside0 (b3 ≠ g ∧ b3 ≠ gb ∧ w.heap.size ≤ b3))
 case first =>
  obtain ⟨A, c, hcs, hge, hr, hl⟩ := HS.out.st
  have hc0 := cellS150_0 hcs
  have hne0 : w2.heap.size ≠ g := Nat.ne_of_gt (IsS150.lt HS.out.st)
  have hne0b : g ≠ w2.heap.size := Nat.ne_of_lt (IsS150.lt HS.out.st)
  have hlg2 : g < w2.heap.size := IsS150.lt HS.out.st
  have HR := Aside0.mk hr
  have HL := Aside0.mk hl
  clear hcs hge hr hl
  go_region_with (first
   | (go_at_call 73; refine (spec_l00Src_pick.calls g s0_0 s0_1 s0_2 40 p1 q1 z1 w0 _ ?side1 ?side2 HA1.out).mono ?_; (case side1 => repeat (first | exact HS.out.st | apply IsS150.alloc | apply IsS150.drew)); (case side2 => repeat (first | exact HS.out.hb | apply below_alloc | apply below_drew1)); rintro e w3 ⟨rfl, hi, hb, hk⟩; (have HT3 := Aside0.mk (R8St.pick (w := w) (gb := gb) (by repeat (first | exact HS.out | apply R8St.alloc | apply R8St.drew)) hi hb hk)); obtain ⟨A', c', hcs', hge', hr', hl'⟩ := hi; (have hc' := cellS150_0 hcs'); (have hne3 : w3.heap.size ≠ g := Nat.ne_of_gt (blk_lt hcs')); (have hne3b : g ≠ w3.heap.size := Nat.ne_of_lt (blk_lt hcs')); (have hlg3 : g < w3.heap.size := blk_lt hcs'); (have HR' := Aside0.mk hr'); (have HL' := Aside0.mk hl'); (try (have HZ3 := Aside0.mk (KeepBut.blk hk (g' := w2.heap.size) (heap_alloc_new w2.drew (.cells #[.complex .f32 0 0, .complex .f32 0 0, .complex .f32 0 0] 39)) hne0 (by simp)))); clear hcs' hge' hr' hl' hb hk)
   | (go_at_call 110; refine (spec_R8Number.calls _ _ s0_0 p1 t1 _ ?side1 ?side2 HB1.out).mono ?_; (case side1 => first | exact Kd.C_below HR.out (by repeat (first | exact HT3.out.hb | apply below_alloc | apply below_drew1)) | exact Kd.C_below HR'.out (by repeat (first | exact HT3.out.hb | apply below_alloc | apply below_drew1))); (case side2 => first | exact HL.out | exact HL'.out); rintro e w4 ⟨rfl, hb4⟩; (have HT4 := Aside0.mk (R8St.below (by repeat (first | exact HT3.out | apply R8St.alloc | apply R8St.drew)) hb4)); (try (have hz4 := blk_below HZ3.out hb4; have HZ4 := Aside0.mk hz4; have hx0 := blk_cell hz4 0; have hx1 := blk_cell hz4 1; have hx2 := blk_cell hz4 2; have hf0 := blk_frozen hz4 0; have hf1 := blk_frozen hz4 1; have hf2 := blk_frozen hz4 2; clear hz4)); (try (have hz4 := blk_below (heap_alloc_new w3 (.cells #[.complex .f32 0 0, .complex .f32 0 0, .complex .f32 0 0] 39)) hb4; have HZ4 := Aside0.mk hz4; have hx0 := blk_cell hz4 0; have hx1 := blk_cell hz4 1; have hx2 := blk_cell hz4 2; have hf0 := blk_frozen hz4 0; have hf1 := blk_frozen hz4 1; have hf2 := blk_frozen hz4 2; clear hz4)); clear hb4))
  all_goals go_wp2
  all_goals go_meet
  all_goals first
   | exact R8fin2 HT4.out
   | exact R8fin HT4.out HZ4.out hne3 (Nat.ne_of_gt (blk_lt HT3.out.hz)) HT3.out.hk.1
   | exact R8fin HT4.out HZ4.out hne0 (Nat.ne_of_gt (blk_lt HS.out.hz)) HS.out.hk.1
 case rest =>
  obtain ⟨b3, rfl, HT, HX, HN⟩ := hcut
  obtain ⟨A2, c2, hcs, hge, hr, hl⟩ := HT.out.st
  have hc2 := cellS150_0 hcs
  have HR2 := Aside0.mk hr
  have HL2 := Aside0.mk hl
  clear hcs hge hr hl
  go_wp2
  go_region_with (first
   | (go_at_call 73; refine (spec_l00Src_pick.calls g s0_0 q1 z1 40 p2 q2 z2 w0 _ ?side1 ?side2 HA2.out).mono ?_; (case side1 => repeat (first | exact HT.out.st | apply IsS150.alloc | apply IsS150.drew)); (case side2 => repeat (first | exact HT.out.hb | apply below_alloc | apply below_drew1)); rintro e w5 ⟨rfl, hi, hb, hk⟩; (have HT2 := Aside0.mk (R8St.pick (w := w) (gb := gb) (by repeat (first | exact HT.out | apply R8St.alloc | apply R8St.drew)) hi hb hk)); obtain ⟨A2', c2', hcs', hge', hr', hl'⟩ := hi; (have hc2' := cellS150_0 hcs'); (have HR2' := Aside0.mk hr'); (have HL2' := Aside0.mk hl'); (have HX2 := Aside0.mk (KeepBut.blk hk (g' := b3) (by repeat (first | exact HX.out | apply blk_drew)) HN.out.1 (by simp))); clear hcs' hge' hr' hl' hb hk)
   | (go_at_call 110; refine (spec_R8Number.calls _ _ s0_0 p2 t2 _ ?side1 ?side2 HB2.out).mono ?_; (case side1 => first | exact Kd.C_below HR2.out HT2.out.hb | exact Kd.C_below HR2'.out HT2.out.hb); (case side2 => first | exact HL2.out | exact HL2'.out); rintro e w6 ⟨rfl, hb4⟩; (have HU2 := Aside0.mk (R8St.below HT2.out hb4)); (have hz4 := blk_below HX2.out hb4); (have HY2 := Aside0.mk hz4); (have hx2 := blk_cell hz4 1); (have hf2 := blk_frozen hz4 1); clear hz4 hb4))
  all_goals
   have HV2 := Aside0.mk (HU2.out.set HN.out.1 HN.out.2.1 HN.out.2.2 1 (.complex .f32 t2.re t2.im))
   have HW2 := Aside0.mk (blk_set HY2.out 1 (.complex .f32 t2.re t2.im))
   clear hx2 hf2 HU2 HY2
   generalize w6.setCell ⟨b3, 1, none⟩ (.complex .f32 t2.re t2.im) = w7 at HV2 HW2 ⊢
   try clear hc2 hc2'
   obtain ⟨A3, c3, hcs, hge, hr, hl⟩ := HV2.out.st
   have hc3 := cellS150_0 hcs
   have HR3 := Aside0.mk hr
   have HL3 := Aside0.mk hl
   clear hcs hge hr hl
   go_wp2
   go_region_with (first
    | (go_at_call 73; refine (spec_l00Src_pick.calls g s0_0 q2 z2 40 p3 q3 z3 w0 _ ?side1 ?side2 HA3.out).mono ?_; (case side1 => repeat (first | exact HV2.out.st | apply IsS150.alloc | apply IsS150.drew)); (case side2 => repeat (first | exact HV2.out.hb | apply below_alloc | apply below_drew1)); rintro e w8 ⟨rfl, hi, hb, hk⟩; (have HT3 := Aside0.mk (R8St.pick (w := w) (gb := gb) (by repeat (first | exact HV2.out | apply R8St.alloc | apply R8St.drew)) hi hb hk)); obtain ⟨A3', c3', hcs', hge', hr', hl'⟩ := hi; (have hc3' := cellS150_0 hcs'); (have HR3' := Aside0.mk hr'); (have HL3' := Aside0.mk hl'); (have HX3 := Aside0.mk (KeepBut.blk hk (g' := b3) (by repeat (first | exact HW2.out | apply blk_drew)) HN.out.1 (by simp))); clear hcs' hge' hr' hl' hb hk)
    | (go_at_call 110; refine (spec_R8Number.calls _ _ s0_0 p3 t3 _ ?side1 ?side2 HB3.out).mono ?_; (case side1 => first | exact Kd.C_below HR3.out HT3.out.hb | exact Kd.C_below HR3'.out HT3.out.hb); (case side2 => first | exact HL3.out | exact HL3'.out); rintro e w9 ⟨rfl, hb4⟩; (have HU3 := Aside0.mk (R8St.below HT3.out hb4)); (have hz4 := blk_below HX3.out hb4); (have HY3 := Aside0.mk hz4); (have hx3 := blk_cell hz4 2); (have hf3 := blk_frozen hz4 2); clear hz4 hb4))
   all_goals
    have HV3 := Aside0.mk (HU3.out.set HN.out.1 HN.out.2.1 HN.out.2.2 2 (.complex .f32 t3.re t3.im))
    have HW3 := Aside0.mk (blk_set HY3.out 2 (.complex .f32 t3.re t3.im))
    clear hx3 hf3 HU3 HY3
    generalize w9.setCell ⟨b3, 2, none⟩ (.complex .f32 t3.re t3.im) = w10 at HV3 HW3 ⊢
    try clear hc3 hc3'
    have hy0 : w10.cell? ⟨b3, 0, none⟩ = some (.complex .f32 t1.re t1.im) := (blk_cell HW3.out 0).trans rfl
    have hy1 : w10.cell? ⟨b3, 1, none⟩ = some (.complex .f32 t2.re t2.im) := (blk_cell HW3.out 1).trans rfl
    have hy2 : w10.cell? ⟨b3, 2, none⟩ = some (.complex .f32 t3.re t3.im) := (blk_cell HW3.out 2).trans rfl
    have hv0 : w10.cell? ⟨gb, 0, none⟩ = some (.complex .f32 0 0) := (blk_cell HV3.out.hz 0).trans rfl
    have hv1 : w10.cell? ⟨gb, 1, none⟩ = some (.complex .f32 0 0) := (blk_cell HV3.out.hz 1).trans rfl
    have hv2 : w10.cell? ⟨gb, 2, none⟩ = some (.complex .f32 0 0) := (blk_cell HV3.out.hz 2).trans rfl
    have hg0 := blk_frozen HV3.out.hz 0
    have hg1 := blk_frozen HV3.out.hz 1
    have hg2 := blk_frozen HV3.out.hz 2
    go_wp2
    refine bodyPost_ret (results_cell_row rfl _ _ gb 39 #[.complex .f32 t1.re t1.im, .complex .f32 t2.re t2.im, .complex .f32 t3.re t3.im] (0, 0) _ rfl (by simpa using blk_set (blk_set (blk_set HV3.out.hz 0 (.complex .f32 t1.re t1.im)) 1 (.complex .f32 t2.re t2.im)) 2 (.complex .f32 t3.re t3.im)) Try.underlying39 rfl (by kernel_rfl)) rfl ?_
    exact R8end HV3.out _ _ _ rfl

end Go.Proofs.Ytcgpomicgbmdlaa.PFnCommon
