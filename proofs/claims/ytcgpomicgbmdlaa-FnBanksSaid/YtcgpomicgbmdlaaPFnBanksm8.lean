-- Words and walks of the print, as far as this claim uses them (laid by wip/mkclaim.py of this session). Lean checks it.
import Derived.Test.YtcgpomicgbmdlaaFl
import Derived.Test.YtcgpomicgbmdlaaPFnBanksm0
import Derived.Test.YtcgpomicgbmdlaaPFnBanksm1
import Derived.Test.YtcgpomicgbmdlaaPFnBanksm2
import Derived.Test.YtcgpomicgbmdlaaPFnBanksm3
import Derived.Test.YtcgpomicgbmdlaaPFnBanksm6
import Derived.Test.YtcgpomicgbmdlaaPFnBanksm7
namespace Go.Proofs.Ytcgpomicgbmdlaa.PFnBanks
open Go.RowKit Go.Proofs.YtcgpomicgbmdlaaW.PrintWords Go.Proofs.YtcgpomicgbmdlaaW.PrintLast Go.Proofs.YtcgpomicgbmdlaaW.PrintMore
attribute [local go_sem] max2_int min2_int max_two min_two max_three min_three max_four min_four   -- for this text's walks alone
set_option linter.unusedVariables false
set_option linter.unusedSimpArgs false

/-! ### impl_BestBank: function 32 -/
-- MANUAL 1 1
def impl_BestBank.l0 : Nat → Cx → Cx → Cx → List (S66) → Int → List Nat → Int → Int → Int → Nat → Option (Int × Bool)
 | 0, _, _, _, _, _, _, _, _, _, _ => none
 | k + 1, a, b, c, f, bus, sizes, rounds, i, best, most => if i < (sizes.length : Int) then ((impl_AddBank.f k a b c f bus (rdOf (0 : Nat) sizes i)).bind fun g => (if g.2.2.2.2 = true then ((impl_Feeder_flat.f g.1 g.2.1 g.2.2.1 g.2.2.2.1).bind fun v => ((impl_Feeder_sweeps_f82.f k v.2.1 v.2.2.1 v.2.2.2 g.2.2.2.1 v.1 rounds).bind fun s => ((impl_lowest.f k s.1).bind fun lo => (if lo.2.2 = true then (if i = 0 then (impl_BestBank.l0 k a b c f bus sizes rounds (i + 1) i lo.2.1) else (if fgt .f32 lo.2.1 most = true then (impl_BestBank.l0 k a b c f bus sizes rounds (i + 1) i lo.2.1) else (impl_BestBank.l0 k a b c f bus sizes rounds (i + 1) best most))) else (none))))) else (none))) else (some (best, true))
def impl_BestBank.f (k : Nat) (a0_0 : Cx) (a0_1 : Cx) (a0_2 : Cx) (l0_3 : List (S66)) (a1 : Int) (l2 : List Nat) (a3 : Int) : Option (Int × Bool) :=
 (impl_Feeder_has.f k a0_0 a0_1 a0_2 l0_3 a1).bind fun h => (if h.1 = true then (if 1 ≤ l2.length then (if l2.length ≤ 16 then (if 0 ≤ a3 then (if a3 ≤ 50 then (impl_BestBank.l0 k a0_0 a0_1 a0_2 l0_3 a1 l2 a3 0 0 0) else (none)) else (none)) else (none)) else (none)) else (none))
theorem impl_BestBank.mono_l : ∀ k, (∀ y0 y1 y2 y3 y4 y5 y6 y7 y8 y9, LeO (impl_BestBank.l0 k y0 y1 y2 y3 y4 y5 y6 y7 y8 y9) (impl_BestBank.l0 (k + 1) y0 y1 y2 y3 y4 y5 y6 y7 y8 y9))
 | 0 => fun _ _ _ _ _ _ _ _ _ _ r h => by simp [impl_BestBank.l0] at h
 | k + 1 => by
  have ih0 := impl_BestBank.mono_l k
  intro y0 y1 y2 y3 y4 y5 y6 y7 y8 y9
  unfold impl_BestBank.l0
  repeat' first
   | (with_reducible exact ih0 _ _ _ _ _ _ _ _ _ _)
   | (with_reducible exact impl_AddBank.mono _ _ _ _ _ _ _)
   | (with_reducible exact impl_Feeder_sweeps_f82.mono _ _ _ _ _ _ _)
   | (with_reducible exact impl_lowest.mono _ _)
   | (with_reducible exact LeO.refl _)
   | (with_reducible exact LeO.none _)
   | (with_reducible refine LeO.ite ?_ ?_)
   | (with_reducible refine LeO.bind ?_ (fun _ => ?_))
theorem impl_BestBank.mono : ∀ a0 a1 a2 a3 a4 a5 a6 k, LeO (impl_BestBank.f k a0 a1 a2 a3 a4 a5 a6) (impl_BestBank.f (k + 1) a0 a1 a2 a3 a4 a5 a6) := by
 intro a0 a1 a2 a3 a4 a5 a6 k
 have ih0 := impl_BestBank.mono_l k
 unfold impl_BestBank.f
 repeat' first
   | (with_reducible exact ih0 _ _ _ _ _ _ _ _ _ _)
   | (with_reducible exact impl_Feeder_has.mono _ _ _ _ _ _)
   | (with_reducible exact LeO.refl _)
   | (with_reducible exact LeO.none _)
   | (with_reducible refine LeO.ite ?_ ?_)
   | (with_reducible refine LeO.bind ?_ (fun _ => ?_))
theorem bb_has {k : Nat} {a b c x y z : Cx} {l : List S66} {i : Int} {r : Bool} (h : impl_Feeder_has.f k a b c l i = some (r, x, y, z)) : a = x ∧ b = y ∧ c = z := by
 unfold impl_Feeder_has.f at h
 obtain ⟨t, _, h⟩ := Option.bind_eq_some_iff.mp h
 split at h
 ·obtain ⟨u, _, h⟩ := Option.bind_eq_some_iff.mp h
  simp only [Option.some.injEq, Prod.mk.injEq] at h
  exact ⟨h.2.1, h.2.2.1, h.2.2.2⟩
 ·simp only [Option.some.injEq, Prod.mk.injEq] at h
  exact ⟨h.2.1, h.2.2.1, h.2.2.2⟩
theorem bb_in (r lo hi : Int) (h1 : lo ≤ r) (h2 : r ≤ hi) : impl_in.f r lo hi = some true := by
 unfold impl_in.f
 rw [if_pos h1]
 exact congrArg some (decide_eq_true h2)
/-- What holds in the loop: the box of the feeder, as it was. -/
def BbBox (W : World) (g0 : Nat) (a b c : Cx) (A : Option Addr) (n cc : Nat) : Prop := W.heap[g0]? = some (.cells #[.complex .f32 a.re a.im, .complex .f32 b.re b.im, .complex .f32 c.re c.im, .slice A n cc] 42 (0, 0))
theorem BbBox.below {W W1 : World} {g0 : Nat} {a b c : Cx} {A : Option Addr} {n cc : Nat} (h : BbBox W g0 a b c A n cc) (hb : Below W.heap.size W W1) : BbBox W1 g0 a b c A n cc := blk_below (show W.heap[g0]? = some _ from h) hb
/-- A state out of a box that was just made, of what had been made before it. -/
theorem bb_state {W W7 : World} {g1 : Nat} {a b c : Cx} {A : Option Addr} {l : List S66} {co : Nat} (hk : W7.heap[g1]? = some (.cells #[.complex .f32 a.re a.im, .complex .f32 b.re b.im, .complex .f32 c.re c.im, .slice A l.length co] 42 (0, 0))) (hg : W.heap.size ≤ g1) (hr : Kd.C k66 W A l.length l) (hl : l.length ≤ co) : IsS42 W W7 g1 a b c l :=
 ⟨A, co, hk, hg, hr, hl⟩
set_option maxHeartbeats 8000000 in
set_option maxRecDepth 100000 in
theorem impl_BestBank.calls (k : Nat) (a0_0 : Cx) (a0_1 : Cx) (a0_2 : Cx) (A0_3 : Option Addr) (c0_3 : Nat) (l0_3 : List (S66)) (a1 : Int) (A2 : Option Addr) (c2 : Nat) (l2 : List Nat) (a3 : Int) (r1 : Int) (r2 : Bool) (w : World) (hr0_3 : Kd.C k66 w A0_3 l0_3.length l0_3) (hc0_3 : l0_3.length ≤ c0_3) (hr2 : Kd.C Kd.f32 w A2 l2.length l2) (hc2 : l2.length ≤ c2) (h : impl_BestBank.f k a0_0 a0_1 a0_2 l0_3 a1 l2 a3 = some (r1, r2)) :
  Calls Try.prog 32 #[.agg #[.complex .f32 a0_0.re a0_0.im, .complex .f32 a0_1.re a0_1.im, .complex .f32 a0_2.re a0_2.im, .slice A0_3 l0_3.length c0_3], .int .i64 a1, .slice A2 l2.length c2, .int .i64 a3] w fun e w' => e = .returned (.tuple #[.int .i64 r1, .bool r2]) ∧ Below w.heap.size w w' := by
 unfold impl_BestBank.f at h
 replace h := Option.bind_eq_some_iff.mp h
 obtain ⟨⟨t, x, y, z⟩, HH, h⟩ := h
 obtain ⟨rfl, rfl, rfl⟩ := bb_has HH
 dsimp only at h
 split at h
 ·rename_i ht
  subst ht
  split at h
  ·rename_i hn1
   split at h
   ·rename_i hn2
    split at h
    ·rename_i hq1
     split at h
     ·rename_i hq2
      replace HH := Aside0.mk HH
      have HR := Aside0.mk hr0_3
      have HC := Aside0.mk hc0_3
      have HR2 := Aside0.mk hr2
      have HN1 := Aside0.mk hn1
      have HN2 := Aside0.mk hn2
      have HI1 := Aside0.mk (bb_in (l2.length : Int) 1 16 (by omega) (by omega))
      have HI2 := Aside0.mk (bb_in a3 0 50 hq1 hq2)
      have HL := Aside0.mk h
      have hu42 := Try.underlying42
      have HB0 := Aside0.mk (Below.refl w.heap.size w)
      clear h hr0_3 hc0_3 hr2 hc2 hn1 hn2 hq1 hq2
      go_enter Try.func32, Try.ntmps32
      go_wp2_with (first
       | ((with_reducible refine gate_dst (N := 4) rfl ?_); refine box_event ?hg (N := 4) ?hd (cs := #[.complex .f32 a0_0.re a0_0.im, .complex .f32 a0_1.re a0_1.im, .complex .f32 a0_2.re a0_2.im, .slice A0_3 l0_3.length c0_3]) (t := 42) ?hr ?_; (case hd => rfl); (case hg => rfl); (case hr => first | (go_simp; done) | (go_simp; rfl)); intro g0 hg w1 hbox hb; have HB1 := Aside0.mk hb; have HI := Aside0.mk (bb_state hbox (Nat.le_of_eq hg.symm) HR.out HC.out); have HG0 := Aside0.mk (show w.heap.size ≤ g0 from Nat.le_of_eq hg.symm); clear hb hbox hg)
       | ((with_reducible refine gate_callee (f := 90) rfl ?_); refine gx_ (some 19) Try.func90 #[.pointer (some ⟨g0, 0, none⟩), .int .i64 a1] ?_; (with_reducible refine (impl_Feeder_has.calls k g0 a0_0 a0_1 a0_2 l0_3 a1 true a0_0 a0_1 a0_2 w _ HI.out HB1.out HH.out).mono ?_); rintro e w2 ⟨rfl, hi, hb, hk⟩; refine ⟨_, rfl, ?_⟩; have HB2 := Aside0.mk hb; obtain ⟨A0, c0, hbx, hge0, hra, hla⟩ := hi; have HBX := Aside0.mk (show BbBox w2 g0 a0_0 a0_1 a0_2 A0 l0_3.length c0 from hbx); have HRA := Aside0.mk hra; have HLA := Aside0.mk hla; clear hb hk hbx hge0 hra hla)
       | (go_at_call 88; (with_reducible refine (impl_in.calls (l2.length : Int) 1 16 true _ HI1.out).mono ?_); rintro e w' ⟨rfl, ⟨nd, rfl⟩⟩)
       | (go_at_call 88; (with_reducible refine (impl_in.calls a3 0 50 true _ HI2.out).mono ?_); rintro e w' ⟨rfl, ⟨nd2, rfl⟩⟩))
      have HBX2 := Aside0.mk (fun n => show BbBox (w2.drewN n) g0 a0_0 a0_1 a0_2 A0 l0_3.length c0 from HBX.out)
      have HBS := Aside0.mk (fun n => pw_below_drewN HB2.out n)
      clear HBX HI HB1 HB2
      go_loopg [10, 11, 34] k (fun kq v10 v11 v34 w' => ∃ (i best : Int) (most : Nat), v10 = .int .i64 best ∧ v11 = .float .f32 most ∧ v34 = .int .i64 i ∧ Aside0 (impl_BestBank.l0 kq a0_0 a0_1 a0_2 l0_3 a1 l2 a3 i best most = some (r1, r2)) ∧ Aside0 (0 ≤ best ∧ best ≤ 16 ∧ 0 ≤ i ∧ i ≤ 16) ∧ Aside0 (BbBox w' g0 a0_0 a0_1 a0_2 A0 l0_3.length c0) ∧ Aside0 (Below w.heap.size w w'))
      case atStart => exact ⟨0, 0, 0, rfl, rfl, rfl, ⟨HL.out⟩, ⟨by omega⟩, ⟨HBX2.out _⟩, ⟨HBS.out _⟩⟩
      case round =>
       clear HL HBX2 HBS
       obtain ⟨i, best, most, rfl, rfl, rfl, HA, HBD, HBX, HB⟩ := hrel
       cases gk with
       | zero => exact absurd HA.out (by simp [impl_BestBank.l0])
       | succ k1 =>
        have H := HA.out
        clear HA
        simp only [impl_BestBank.l0] at H
        by_cases c : i < (l2.length : Int)
        ·rw [if_pos c] at H
         replace H := Option.bind_eq_some_iff.mp H
         obtain ⟨⟨gx, gy, gz, gl, gok⟩, HA1, H⟩ := H
         dsimp only at H
         by_cases cg : gok = true
         ·subst cg
          rw [if_pos rfl] at H
          replace H := Option.bind_eq_some_iff.mp H
          obtain ⟨⟨v, vx, vy, vz⟩, HA2, H⟩ := H
          dsimp only at H
          replace H := Option.bind_eq_some_iff.mp H
          obtain ⟨⟨sv, sc, sr, sb, sx, sy, sz⟩, HA3, H⟩ := H
          dsimp only at H
          replace H := Option.bind_eq_some_iff.mp H
          obtain ⟨⟨lo, lx, lok⟩, HA4, H⟩ := H
          dsimp only at H
          by_cases cl : lok = true
          ·subst cl
           rw [if_pos rfl] at H
           have key : ∃ (nb : Int) (nm : Nat), Aside0 (impl_BestBank.l0 k1 a0_0 a0_1 a0_2 l0_3 a1 l2 a3 (i + 1) nb nm = some (r1, r2)) ∧ Aside0 (0 ≤ nb ∧ nb ≤ 16) ∧
             ((i == 0) = true ∧ i = nb ∧ lx = nm ∨ (i == 0) = false ∧ fgt .f32 lx most = true ∧ i = nb ∧ lx = nm ∨ (i == 0) = false ∧ fgt .f32 lx most = false ∧ best = nb ∧ most = nm) := by
            have hbd := HBD.out
            by_cases c0 : i = 0
            ·rw [if_pos c0] at H
             exact ⟨i, lx, ⟨H⟩, ⟨by omega⟩, .inl ⟨by simp [c0], rfl, rfl⟩⟩
            ·rw [if_neg c0] at H
             by_cases c1 : fgt .f32 lx most = true
             ·rw [if_pos c1] at H
              exact ⟨i, lx, ⟨H⟩, ⟨by omega⟩, .inr (.inl ⟨beq_eq_false_iff_ne.mpr c0, c1, rfl, rfl⟩)⟩
             ·rw [if_neg c1] at H
              exact ⟨best, most, ⟨H⟩, ⟨by omega⟩, .inr (.inr ⟨beq_eq_false_iff_ne.mpr c0, Bool.eq_false_iff.mpr c1, rfl, rfl⟩)⟩
           clear H
           obtain ⟨nb, nm, HL, HNB, key⟩ := key
           replace HA1 := Aside0.mk HA1
           replace HA2 := Aside0.mk HA2
           replace HA3 := Aside0.mk HA3
           replace HA4 := Aside0.mk HA4
           have hwk : wrap64 (i + 1) = i + 1 := by have := HBD.out; unfold wrap64; omega
           have p : 0 ≤ i := HBD.out.2.2.1
           have HC := Aside0.mk c
           obtain ⟨ad, e, hx⟩ := Kd.at_f32 HR2.out i p c
           cases e
           replace hx := pw_cell_below HB.out hx
           have d1 : decide (i < (l2.length : Int)) = true := decide_eq_true c
           replace p := eq_true p
           replace c := eq_true c
           have hu39 := Try.underlying39
           have hfd : ∀ (x0_ x1_ x2_ x3_ : Value) (W : World), (Instr.field 51 (.agg #[x0_, x1_, x2_, x3_]) 0).run Try.prog W = .ok (x0_) W := by as_aux_lemma => (intros; rfl)
           have hc0 : wr.cell? ⟨g0, 0, none⟩ = some (.complex .f32 a0_0.re a0_0.im) := (blk_cell (show wr.heap[g0]? = some _ from HBX.out) 0).trans rfl
           have hc1 : wr.cell? ⟨g0, 1, none⟩ = some (.complex .f32 a0_1.re a0_1.im) := (blk_cell (show wr.heap[g0]? = some _ from HBX.out) 1).trans rfl
           have hc2 : wr.cell? ⟨g0, 2, none⟩ = some (.complex .f32 a0_2.re a0_2.im) := (blk_cell (show wr.heap[g0]? = some _ from HBX.out) 2).trans rfl
           have hc3 : wr.cell? ⟨g0, 3, none⟩ = some (.slice A0 l0_3.length c0) := (blk_cell (show wr.heap[g0]? = some _ from HBX.out) 3).trans rfl
           rcases key with ⟨z1, e1, e2⟩ | ⟨z1, z2, e1, e2⟩ | ⟨z1, z2, e1, e2⟩
           all_goals
            subst e1
            subst e2
            go_wp2_with (first
             | ((with_reducible refine gate_callee (f := 33) rfl ?_); refine gx_ (some 43) Try.func33 #[.agg #[.complex .f32 a0_0.re a0_0.im, .complex .f32 a0_1.re a0_1.im, .complex .f32 a0_2.re a0_2.im, .slice A0 l0_3.length c0], .int .i64 a1, .float .f32 (rdOf (0 : Nat) l2 i)] ?_; (with_reducible refine (impl_AddBank.calls k1 a0_0 a0_1 a0_2 A0 c0 l0_3 a1 (rdOf (0 : Nat) l2 i) gx gy gz gl true _ ?s1 HLA.out HA1.out).mono ?_); (case s1 => exact Kd.C_below HRA.out HB.out); rintro e w3 ⟨v3, rfl, ho, hb⟩; refine ⟨_, rfl, ?_⟩; have HO3 := Aside0.mk ho; have HB3 := Aside0.mk (below_step HB.out hb); have HBX3 := Aside0.mk (HBX.out.below hb); clear hb ho hc0 hc1 hc2 hc3 hx; obtain ⟨Ao, co, eo⟩ := Kd.R_slice HO3.out; subst eo)
             | ((with_reducible refine gate_dst (N := 14) rfl ?_); refine box_event ?hg (N := 14) ?hd (cs := #[.complex .f32 0 0, .complex .f32 0 0, .complex .f32 0 0, .slice none 0 0]) (t := 42) ?hr ?_; (case hd => rfl); (case hg => rfl); (case hr => first | (go_simp; done) | (go_simp; rfl)); intro g1 hg w4 hbox hb; have HG1 := Aside0.mk (show w3.heap.size ≤ g1 from Nat.le_of_eq hg.symm); have BK4 := Aside0.mk hbox; have HB4 := Aside0.mk hb; have hd0 : w4.cell? ⟨g1, 0, none⟩ = some (.complex .f32 0 0) := (blk_cell BK4.out 0).trans rfl; have hd1 : w4.cell? ⟨g1, 1, none⟩ = some (.complex .f32 0 0) := (blk_cell BK4.out 1).trans rfl; have hd2 : w4.cell? ⟨g1, 2, none⟩ = some (.complex .f32 0 0) := (blk_cell BK4.out 2).trans rfl; have hd3 : w4.cell? ⟨g1, 3, none⟩ = some (.slice none 0 0) := (blk_cell BK4.out 3).trans rfl; have hf0 := blk_frozen BK4.out 0; have hf1 := blk_frozen BK4.out 1; have hf2 := blk_frozen BK4.out 2; have hf3 := blk_frozen BK4.out 3; clear hb hbox hg)
             | ((with_reducible refine gate_callee (f := 93) rfl ?_); refine gx_ (some 49) Try.func93 #[.pointer (some ⟨g1, 0, none⟩)] ?_; (with_reducible refine (impl_Feeder_flat.calls g1 gx gy gz gl v vx vy vz w3 _ ?s1 ?s2 HA2.out).mono ?_); (case s1 => exact bb_state (by refine blk_put (cs := #[.complex .f32 gx.re gx.im, .complex .f32 gy.re gy.im, .complex .f32 gz.re gz.im, .slice none 0 0]) ?_ 3 _ rfl; refine blk_put (cs := #[.complex .f32 gx.re gx.im, .complex .f32 gy.re gy.im, .complex .f32 0 0, .slice none 0 0]) ?_ 2 _ rfl; refine blk_put (cs := #[.complex .f32 gx.re gx.im, .complex .f32 0 0, .complex .f32 0 0, .slice none 0 0]) ?_ 1 _ rfl; refine blk_put (cs := #[.complex .f32 0 0, .complex .f32 0 0, .complex .f32 0 0, .slice none 0 0]) ?_ 0 _ rfl; exact BK4.out) HG1.out (Kd.R_reads' HO3.out).2.2 (Kd.R_reads' HO3.out).2.1); (case s2 => exact below_set (below_set (below_set (below_set HB4.out HG1.out) HG1.out) HG1.out) HG1.out); rintro e w5 ⟨v5, rfl, ho, hi, hb, hk⟩; refine ⟨_, rfl, ?_⟩; have HO5 := Aside0.mk ho; have HI5 := Aside0.mk hi; have HB5 := Aside0.mk hb; clear ho hi hb hk hd0 hd1 hd2 hd3 hf0 hf1 hf2 hf3; obtain ⟨Av, cv, ev⟩ := Kd.R_slice HO5.out; subst ev)
             | ((with_reducible refine gate_callee (f := 92) rfl ?_); refine gx_ (some 51) Try.func92 #[.pointer (some ⟨g1, 0, none⟩), .slice Av v.length cv, .int .i64 a3, .func (.func 82) #[] #[]] ?_; (with_reducible refine (impl_Feeder_sweeps_f82.calls k1 g1 vx vy vz gl Av cv v a3 sv sc sr sb sx sy sz w3 _ HI5.out HB5.out ?s3 (Kd.R_reads' HO5.out).2.1 HA3.out).mono ?_); (case s3 => exact Kd.C_foot_own (IsS42.apart HI5.out HO5.out (by decide)) (fun _ h_ => h_.2)); rintro e w6 ⟨v0_, v1_, rfl, ho, ho1, hi, hb, hk⟩; refine ⟨_, rfl, ?_⟩; have HO6 := Aside0.mk ho; have HB6 := Aside0.mk hb; clear ho ho1 hi hb hk; obtain ⟨As, cs_, es⟩ := Kd.R_slice HO6.out; subst es)
             | ((with_reducible refine gate_callee (f := 91) rfl ?_); refine gx_ (some 53) Try.func91 #[.slice As sv.length cs_] ?_; (with_reducible refine (impl_lowest.calls k1 As cs_ sv lo lx true _ ?s5 (Kd.R_reads' HO6.out).2.1 HA4.out).mono ?_); (case s5 => exact (Kd.R_reads' HO6.out).2.2); rintro e w7 ⟨rfl, hb⟩; refine ⟨_, rfl, ?_⟩; have HB7 := Aside0.mk (below_step (below_step HB3.out HB6.out) hb); have HBX7 := Aside0.mk ((HBX3.out.below HB6.out).below hb); clear hb))
            go_roundg k1
            case measure => omega
            case rel => exact ⟨i + 1, _, _, rfl, rfl, by first | rfl | (simp [hwk]; done), HL, ⟨by have := HBD.out; have := HNB.out; have := HC.out; have := HN2.out; omega⟩, HBX7, HB7⟩
          ·rw [if_neg cl] at H
           cases H
         ·rw [if_neg cg] at H
          cases H
        ·rw [if_neg c] at H
         simp only [Option.some.injEq, Prod.mk.injEq] at H
         obtain ⟨rfl, rfl⟩ := H
         have d1 : decide (i < (l2.length : Int)) = false := decide_eq_false c
         clear c
         go_wp2
         go_ret2
         exact ⟨by simp, HB.out⟩
     ·cases h
    ·cases h
   ·cases h
  ·cases h
 ·cases h

end Go.Proofs.Ytcgpomicgbmdlaa.PFnBanks
namespace Go.Proofs.Ytcgpomicgbmdlaa.PFnBanks
open Go.RowKit Go.Proofs.YtcgpomicgbmdlaaW.PrintWords Go.Proofs.YtcgpomicgbmdlaaW.PrintLast Go.Proofs.YtcgpomicgbmdlaaW.PrintMore
attribute [local go_sem] max2_int min2_int max_two min_two max_three min_three max_four min_four   -- for this text's walks alone
set_option linter.unusedVariables false
set_option linter.unusedSimpArgs false

/-! ### impl_FlatVoltages: function 35 -/
def impl_FlatVoltages.f (k : Nat) (a0_0 : Cx) (a0_1 : Cx) (a0_2 : Cx) (l0_3 : List (S66)) : Option ((List (S39)) × Bool) := (impl_ValidFeeder.f k a0_0 a0_1 a0_2 l0_3).bind fun t467 => (if t467 = true then ((impl_Feeder_flat.f a0_0 a0_1 a0_2 l0_3).bind fun bt468 => (some (bt468.1, true))) else (some (([] : List (S39)), false)))
theorem impl_FlatVoltages.mono : ∀ a0 a1 a2 a3 k, LeO (impl_FlatVoltages.f k a0 a1 a2 a3) (impl_FlatVoltages.f (k + 1) a0 a1 a2 a3) := by
 intro a0 a1 a2 a3 k
 unfold impl_FlatVoltages.f
 repeat' first
   | (with_reducible exact impl_ValidFeeder.mono _ _ _ _ _)
   | (with_reducible exact LeO.refl _)
   | (with_reducible exact LeO.none _)
   | (with_reducible refine LeO.ite ?_ ?_)
   | (with_reducible refine LeO.bind ?_ (fun _ => ?_))
   | exact impl_ValidFeeder.mono _ _ _ _ _
   | exact LeO.none _
   | refine LeO.ite ?_ ?_
   | refine LeO.bind ?_ (fun _ => ?_)
set_option maxHeartbeats 8000000 in
set_option maxRecDepth 100000 in
theorem impl_FlatVoltages.calls (k : Nat) (a0_0 : Cx) (a0_1 : Cx) (a0_2 : Cx) (A0_3 : Option Addr) (c0_3 : Nat) (l0_3 : List (S66)) (r1 : List (S39)) (r2 : Bool) (w : World) (hr0_3 : Kd.C k66 w A0_3 l0_3.length l0_3) (hc0_3 : l0_3.length ≤ c0_3) (h : impl_FlatVoltages.f k a0_0 a0_1 a0_2 l0_3 = some (r1, r2)) :
  Calls Try.prog 35 #[.agg #[.complex .f32 a0_0.re a0_0.im, .complex .f32 a0_1.re a0_1.im, .complex .f32 a0_2.re a0_2.im, .slice A0_3 l0_3.length c0_3]] w fun e w' => ∃ v0_ : Value, e = .returned (.tuple #[v0_, .bool r2]) ∧ Kd.R k39 39 w' w.heap.size (fun _ => True) v0_ r1 ∧ Below w.heap.size w w' := by
 have hu42 := Try.underlying42
 have HR0_3 := Aside0.mk hr0_3
 have HC0_3 := Aside0.mk hc0_3
 clear hr0_3 hc0_3
 have HB := Aside0.mk (Below.refl w.heap.size w)
 have H : ((impl_ValidFeeder.f k a0_0 a0_1 a0_2 l0_3).bind fun t467 => (if t467 = true then ((impl_Feeder_flat.f a0_0 a0_1 a0_2 l0_3).bind fun bt468 => (some (bt468.1, true))) else (some (([] : List (S39)), false)))) = some (r1, r2) := h
 clear h
 replace H := Option.bind_eq_some_iff.mp H
 obtain ⟨t467, A20, H⟩ := H
 try dsimp only at H
 have A2 := Aside0.mk A20
 clear A20
 by_cases c3 : t467 = true
 ·subst c3
  rw [if_pos rfl] at H; try dsimp only at H
  replace H := Option.bind_eq_some_iff.mp H
  obtain ⟨⟨t468, t471, t472, t473⟩, A40, H⟩ := H
  try dsimp only at H
  have A4 := Aside0.mk A40
  clear A40
  simp only [Option.some.injEq, Prod.mk.injEq] at H
  obtain ⟨rfl, rfl⟩ := H
  go_enter Try.func35, Try.ntmps35
  go_wp2_with (first | ((with_reducible refine gate_dst (N := 1) rfl ?_); refine box_event ?hg (N := 1) ?hd (cs := #[.complex .f32 a0_0.re a0_0.im, .complex .f32 a0_1.re a0_1.im, .complex .f32 a0_2.re a0_2.im, .slice A0_3 l0_3.length c0_3]) (t := 42) ?hr ?_; (case hd => rfl); (case hg => rfl); (case hr => first | (go_simp; done) | (go_simp; rfl)); intro gb464 hg w5 hbox hb; have n0_ := Aside0.mk (below_step tb hb); have n1_ := Aside0.mk (hbox); have n2_ := Aside0.mk ((by rw [hg]; exact (below_size tb) : w.heap.size ≤ gb464)); have n3_ := Aside0.mk ((by rw [hg]; exact (below_size tb) : w.heap.size ≤ gb464)); clear HB; have HB := n0_; have BK464 := n1_; have GW464 := n2_; have GE464 := n3_; clear n0_ n1_ n2_ n3_; clear hb hbox hg; have HI464 := Aside0.mk (show IsS42 w _ gb464 a0_0 a0_1 a0_2 l0_3 from ⟨_, _, BK464.out, (by first | exact GE464.out | exact GW464.out), HR0_3.out, HC0_3.out⟩); obtain ⟨ASz6_3, cSz6_3, HGz6, hgz6, HSz6_3, HLz6_3⟩ := HI464.out; have hcz6_0 := cellS42_0 HGz6; have hcz6_1 := cellS42_1 HGz6; have hcz6_2 := cellS42_2 HGz6; have hcz6_3 := cellS42_3 HGz6; have hfz6_0 := blk_frozen HGz6 0; have hfz6_1 := blk_frozen HGz6 1; have hfz6_2 := blk_frozen HGz6 2; clear HGz6 hgz6; have HR466 := Aside0.mk HSz6_3; have HC466 := Aside0.mk HLz6_3) | ((with_reducible refine gate_callee (f := 34) rfl ?_); refine gx_ (some 5) Try.func34 #[.agg #[.complex .f32 a0_0.re a0_0.im, .complex .f32 a0_1.re a0_1.im, .complex .f32 a0_2.re a0_2.im, .slice ASz6_3 l0_3.length cSz6_3]] ?_; (with_reducible refine (impl_ValidFeeder.calls k a0_0 a0_1 a0_2 _ _ l0_3 true _ ?side1 ?side2 A2.out).mono ?_); (case side1 => exact cu ((Kd.C_below HR466.out HB.out))); (case side2 => exact HC466.out); rintro e w7 ⟨rfl, hb⟩; refine ⟨_, rfl, ?_⟩; have n0_ := Aside0.mk (IsS42.below (by have hi_ := HI464.out; exact IsS42.up) hb); have n1_ := Aside0.mk (below_step (by have ge_ := IsS42.ge HI464.out; exact tb) hb); clear HI464; clear HB; have HI464 := n0_; have HB := n1_; clear n0_ n1_; (try clear hb); (try clear hb2); (try clear hk); (try clear hi)) | ((with_reducible refine gate_callee (f := 93) rfl ?_); refine gx_ (some 7) Try.func93 #[.pointer (some ⟨gb464, 0, none⟩)] ?_; (with_reducible refine (impl_Feeder_flat.calls gb464 a0_0 a0_1 a0_2 l0_3 t468 t471 t472 t473 w _ ?side1 ?side2 A4.out).mono ?_); (case side1 => have hi_ := HI464.out; exact IsS42.up); (case side2 => have ge_ := IsS42.ge HI464.out; exact tb); rintro e w8 ⟨v469, rfl, ho0, hi, hb, hk⟩; refine ⟨_, rfl, ?_⟩; have n0_ := Aside0.mk (Kd.R_lower ho0 (below_size (by have ge_ := IsS42.ge HI464.out; exact tb))); have n1_ := Aside0.mk (hb); have n2_ := Aside0.mk (hi); clear HB; clear HI464; have HO470 := n0_; have HB := n1_; have HI464 := n2_; clear n0_ n1_ n2_; (try clear hb); (try clear hb2); (try clear hk); (try clear hi); (try clear ho0)))
  go_ret2
  exact ⟨_, re_, by refine ru ?_; exact HO470.out, by have ge_ := IsS42.ge HI464.out; exact tb⟩
 ·replace c3 := Bool.eq_false_iff.mpr c3
  subst c3
  have H1 : (some (([] : List (S39)), false)) = some (r1, r2) := by rw [if_neg (show ¬ (false = true) by decide)] at H; exact H
  clear H
  have H := H1
  clear H1
  simp only [Option.some.injEq, Prod.mk.injEq] at H
  obtain ⟨rfl, rfl⟩ := H
  go_enter Try.func35, Try.ntmps35
  go_wp2_with (first | ((with_reducible refine gate_dst (N := 1) rfl ?_); refine box_event ?hg (N := 1) ?hd (cs := #[.complex .f32 a0_0.re a0_0.im, .complex .f32 a0_1.re a0_1.im, .complex .f32 a0_2.re a0_2.im, .slice A0_3 l0_3.length c0_3]) (t := 42) ?hr ?_; (case hd => rfl); (case hg => rfl); (case hr => first | (go_simp; done) | (go_simp; rfl)); intro gb464 hg w9 hbox hb; have n0_ := Aside0.mk (below_step tb hb); have n1_ := Aside0.mk (hbox); have n2_ := Aside0.mk ((by rw [hg]; exact (below_size tb) : w.heap.size ≤ gb464)); have n3_ := Aside0.mk ((by rw [hg]; exact (below_size tb) : w.heap.size ≤ gb464)); clear HB; have HB := n0_; have BK464 := n1_; have GW464 := n2_; have GE464 := n3_; clear n0_ n1_ n2_ n3_; clear hb hbox hg; have HI464 := Aside0.mk (show IsS42 w _ gb464 a0_0 a0_1 a0_2 l0_3 from ⟨_, _, BK464.out, (by first | exact GE464.out | exact GW464.out), HR0_3.out, HC0_3.out⟩); obtain ⟨ASz10_3, cSz10_3, HGz10, hgz10, HSz10_3, HLz10_3⟩ := HI464.out; have hcz10_0 := cellS42_0 HGz10; have hcz10_1 := cellS42_1 HGz10; have hcz10_2 := cellS42_2 HGz10; have hcz10_3 := cellS42_3 HGz10; have hfz10_0 := blk_frozen HGz10 0; have hfz10_1 := blk_frozen HGz10 1; have hfz10_2 := blk_frozen HGz10 2; clear HGz10 hgz10; have HR466 := Aside0.mk HSz10_3; have HC466 := Aside0.mk HLz10_3) | ((with_reducible refine gate_callee (f := 34) rfl ?_); refine gx_ (some 5) Try.func34 #[.agg #[.complex .f32 a0_0.re a0_0.im, .complex .f32 a0_1.re a0_1.im, .complex .f32 a0_2.re a0_2.im, .slice ASz10_3 l0_3.length cSz10_3]] ?_; (with_reducible refine (impl_ValidFeeder.calls k a0_0 a0_1 a0_2 _ _ l0_3 false _ ?side1 ?side2 A2.out).mono ?_); (case side1 => exact cu ((Kd.C_below HR466.out HB.out))); (case side2 => exact HC466.out); rintro e w11 ⟨rfl, hb⟩; refine ⟨_, rfl, ?_⟩; have n0_ := Aside0.mk (IsS42.below (by have hi_ := HI464.out; exact IsS42.up) hb); have n1_ := Aside0.mk (below_step (by have ge_ := IsS42.ge HI464.out; exact tb) hb); clear HI464; clear HB; have HI464 := n0_; have HB := n1_; clear n0_ n1_; (try clear hb); (try clear hb2); (try clear hk); (try clear hi)))
  go_ret2
  exact ⟨_, re_, by first | exact Kd.R_nil _ _ _ _ _ | exact Kd.N_nil _ _ _ _ _ | exact Kd.V_nil _ _ _ _ _ | exact Kd.Q_nil _ _ _ _ _ | exact Kd.S_nil _ _ _ _ _, by have ge_ := IsS42.ge HI464.out; exact tb⟩

end Go.Proofs.Ytcgpomicgbmdlaa.PFnBanks
namespace Go.Proofs.Ytcgpomicgbmdlaa.PFnBanks
open Go.RowKit Go.Proofs.YtcgpomicgbmdlaaW.PrintWords Go.Proofs.YtcgpomicgbmdlaaW.PrintLast Go.Proofs.YtcgpomicgbmdlaaW.PrintMore
attribute [local go_sem] max2_int min2_int max_two min_two max_three min_three max_four min_four   -- for this text's walks alone
set_option linter.unusedVariables false
set_option linter.unusedSimpArgs false

/-! ### impl_listFor: function 80 -/
def impl_listFor.f (k : Nat) (a0_0 : Cx) (a0_1 : Cx) (a0_2 : Cx) (l0_3 : List (S66)) (l1 : List (S39)) : Option (Bool) := (impl_ValidFeeder.f k a0_0 a0_1 a0_2 l0_3).bind fun t475 => (if t475 = true then (some ((l1.length : Int) == (l0_3.length : Int))) else (some false))
theorem impl_listFor.mono : ∀ a0 a1 a2 a3 a4 k, LeO (impl_listFor.f k a0 a1 a2 a3 a4) (impl_listFor.f (k + 1) a0 a1 a2 a3 a4) := by
 intro a0 a1 a2 a3 a4 k
 unfold impl_listFor.f
 repeat' first
   | (with_reducible exact impl_ValidFeeder.mono _ _ _ _ _)
   | (with_reducible exact LeO.refl _)
   | (with_reducible exact LeO.none _)
   | (with_reducible refine LeO.ite ?_ ?_)
   | (with_reducible refine LeO.bind ?_ (fun _ => ?_))
   | exact impl_ValidFeeder.mono _ _ _ _ _
   | exact LeO.none _
   | refine LeO.ite ?_ ?_
   | refine LeO.bind ?_ (fun _ => ?_)
set_option maxHeartbeats 8000000 in
set_option maxRecDepth 100000 in
theorem impl_listFor.calls (k : Nat) (a0_0 : Cx) (a0_1 : Cx) (a0_2 : Cx) (A0_3 : Option Addr) (c0_3 : Nat) (l0_3 : List (S66)) (A1 : Option Addr) (c1 : Nat) (l1 : List (S39)) (r : Bool) (w : World) (hr0_3 : Kd.C k66 w A0_3 l0_3.length l0_3) (hc0_3 : l0_3.length ≤ c0_3) (hr1 : Kd.C k39 w A1 l1.length l1) (hc1 : l1.length ≤ c1) (h : impl_listFor.f k a0_0 a0_1 a0_2 l0_3 l1 = some r) :
  Calls Try.prog 80 #[.agg #[.complex .f32 a0_0.re a0_0.im, .complex .f32 a0_1.re a0_1.im, .complex .f32 a0_2.re a0_2.im, .slice A0_3 l0_3.length c0_3], .slice A1 l1.length c1] w fun e w' => e = .returned (.bool r) ∧ Below w.heap.size w w' := by
 have hu42 := Try.underlying42
 have HR0_3 := Aside0.mk hr0_3
 have HC0_3 := Aside0.mk hc0_3
 clear hr0_3 hc0_3
 have HR1 := Aside0.mk hr1
 have HC1 := Aside0.mk hc1
 clear hr1 hc1
 have HB := Aside0.mk (Below.refl w.heap.size w)
 have H : ((impl_ValidFeeder.f k a0_0 a0_1 a0_2 l0_3).bind fun t475 => (if t475 = true then (some ((l1.length : Int) == (l0_3.length : Int))) else (some false))) = some r := h
 clear h
 replace H := Option.bind_eq_some_iff.mp H
 obtain ⟨t475, A30, H⟩ := H
 try dsimp only at H
 have A3 := Aside0.mk A30
 clear A30
 by_cases c4 : t475 = true
 ·subst c4
  rw [if_pos rfl] at H; try dsimp only at H
  obtain rfl := Option.some.inj H
  go_enter Try.func80, Try.ntmps80
  go_wp2_with (first | ((with_reducible refine gate_dst (N := 2) rfl ?_); (try (refine gate_guard (by rfl) ?_; dsimp only)); refine box_event ?hg (N := 2) ?hd (cs := #[.complex .f32 a0_0.re a0_0.im, .complex .f32 a0_1.re a0_1.im, .complex .f32 a0_2.re a0_2.im, .slice A0_3 l0_3.length c0_3]) (t := 42) ?hr ?_; (case hd => rfl); (case hg => rfl); (case hr => first | (go_simp; done) | (go_simp; rfl)); intro gb474 hg w5 hbox hb; have n0_ := Aside0.mk (below_step tb hb); have n1_ := Aside0.mk (hbox); have n2_ := Aside0.mk ((by rw [hg]; exact (below_size tb) : w.heap.size ≤ gb474)); have n3_ := Aside0.mk ((by rw [hg]; exact (below_size tb) : w.heap.size ≤ gb474)); clear HB; have HB := n0_; have BK474 := n1_; have GW474 := n2_; have GE474 := n3_; clear n0_ n1_ n2_ n3_; clear hb hbox hg; have hcz6_0 : w5.cell? ⟨gb474, 0, none⟩ = some (.complex .f32 a0_0.re a0_0.im) := (blk_cell BK474.out 0).trans rfl; have hcz6_1 : w5.cell? ⟨gb474, 1, none⟩ = some (.complex .f32 a0_1.re a0_1.im) := (blk_cell BK474.out 1).trans rfl; have hcz6_2 : w5.cell? ⟨gb474, 2, none⟩ = some (.complex .f32 a0_2.re a0_2.im) := (blk_cell BK474.out 2).trans rfl; have hcz6_3 : w5.cell? ⟨gb474, 3, none⟩ = some (.slice A0_3 l0_3.length c0_3) := (blk_cell BK474.out 3).trans rfl; have hfz6_0 := blk_frozen BK474.out 0; have hfz6_1 := blk_frozen BK474.out 1; have hfz6_2 := blk_frozen BK474.out 2; have hfz6_3 := blk_frozen BK474.out 3) | ((with_reducible refine gate_callee (f := 34) rfl ?_); refine gx_ (some 6) Try.func34 #[.agg #[.complex .f32 a0_0.re a0_0.im, .complex .f32 a0_1.re a0_1.im, .complex .f32 a0_2.re a0_2.im, .slice A0_3 l0_3.length c0_3]] ?_; (with_reducible refine (impl_ValidFeeder.calls k a0_0 a0_1 a0_2 _ _ l0_3 true _ ?side1 ?side2 A3.out).mono ?_); (case side1 => exact cu ((Kd.C_below HR0_3.out HB.out))); (case side2 => exact HC0_3.out); rintro e w7 ⟨rfl, hb⟩; refine ⟨_, rfl, ?_⟩; have n0_ := Aside0.mk (blk_below (g := gb474) (o := .cells #[.complex .f32 a0_0.re a0_0.im, .complex .f32 a0_1.re a0_1.im, .complex .f32 a0_2.re a0_2.im, .slice A0_3 l0_3.length c0_3] 42 (0, 0)) (bu BK474.out) hb); have n1_ := Aside0.mk (below_step tb hb); clear BK474; clear HB; have BK474 := n0_; have HB := n1_; clear n0_ n1_; (try clear hb); (try clear hb2); (try clear hk); (try clear hi); have hcz8_0 : w7.cell? ⟨gb474, 0, none⟩ = some (.complex .f32 a0_0.re a0_0.im) := (blk_cell BK474.out 0).trans rfl; have hcz8_1 : w7.cell? ⟨gb474, 1, none⟩ = some (.complex .f32 a0_1.re a0_1.im) := (blk_cell BK474.out 1).trans rfl; have hcz8_2 : w7.cell? ⟨gb474, 2, none⟩ = some (.complex .f32 a0_2.re a0_2.im) := (blk_cell BK474.out 2).trans rfl; have hcz8_3 : w7.cell? ⟨gb474, 3, none⟩ = some (.slice A0_3 l0_3.length c0_3) := (blk_cell BK474.out 3).trans rfl; have hfz8_0 := blk_frozen BK474.out 0; have hfz8_1 := blk_frozen BK474.out 1; have hfz8_2 := blk_frozen BK474.out 2; have hfz8_3 := blk_frozen BK474.out 3))
  go_ret
  exact ⟨re_, tb⟩
 ·replace c4 := Bool.eq_false_iff.mpr c4
  subst c4
  have H1 : (some false) = some r := by rw [if_neg (show ¬ (false = true) by decide)] at H; exact H
  clear H
  have H := H1
  clear H1
  obtain rfl := Option.some.inj H
  go_enter Try.func80, Try.ntmps80
  go_wp2_with (first | ((with_reducible refine gate_dst (N := 2) rfl ?_); (try (refine gate_guard (by rfl) ?_; dsimp only)); refine box_event ?hg (N := 2) ?hd (cs := #[.complex .f32 a0_0.re a0_0.im, .complex .f32 a0_1.re a0_1.im, .complex .f32 a0_2.re a0_2.im, .slice A0_3 l0_3.length c0_3]) (t := 42) ?hr ?_; (case hd => rfl); (case hg => rfl); (case hr => first | (go_simp; done) | (go_simp; rfl)); intro gb474 hg w9 hbox hb; have n0_ := Aside0.mk (below_step tb hb); have n1_ := Aside0.mk (hbox); have n2_ := Aside0.mk ((by rw [hg]; exact (below_size tb) : w.heap.size ≤ gb474)); have n3_ := Aside0.mk ((by rw [hg]; exact (below_size tb) : w.heap.size ≤ gb474)); clear HB; have HB := n0_; have BK474 := n1_; have GW474 := n2_; have GE474 := n3_; clear n0_ n1_ n2_ n3_; clear hb hbox hg; have hcz10_0 : w9.cell? ⟨gb474, 0, none⟩ = some (.complex .f32 a0_0.re a0_0.im) := (blk_cell BK474.out 0).trans rfl; have hcz10_1 : w9.cell? ⟨gb474, 1, none⟩ = some (.complex .f32 a0_1.re a0_1.im) := (blk_cell BK474.out 1).trans rfl; have hcz10_2 : w9.cell? ⟨gb474, 2, none⟩ = some (.complex .f32 a0_2.re a0_2.im) := (blk_cell BK474.out 2).trans rfl; have hcz10_3 : w9.cell? ⟨gb474, 3, none⟩ = some (.slice A0_3 l0_3.length c0_3) := (blk_cell BK474.out 3).trans rfl; have hfz10_0 := blk_frozen BK474.out 0; have hfz10_1 := blk_frozen BK474.out 1; have hfz10_2 := blk_frozen BK474.out 2; have hfz10_3 := blk_frozen BK474.out 3) | ((with_reducible refine gate_callee (f := 34) rfl ?_); refine gx_ (some 6) Try.func34 #[.agg #[.complex .f32 a0_0.re a0_0.im, .complex .f32 a0_1.re a0_1.im, .complex .f32 a0_2.re a0_2.im, .slice A0_3 l0_3.length c0_3]] ?_; (with_reducible refine (impl_ValidFeeder.calls k a0_0 a0_1 a0_2 _ _ l0_3 false _ ?side1 ?side2 A3.out).mono ?_); (case side1 => exact cu ((Kd.C_below HR0_3.out HB.out))); (case side2 => exact HC0_3.out); rintro e w11 ⟨rfl, hb⟩; refine ⟨_, rfl, ?_⟩; have n0_ := Aside0.mk (blk_below (g := gb474) (o := .cells #[.complex .f32 a0_0.re a0_0.im, .complex .f32 a0_1.re a0_1.im, .complex .f32 a0_2.re a0_2.im, .slice A0_3 l0_3.length c0_3] 42 (0, 0)) (bu BK474.out) hb); have n1_ := Aside0.mk (below_step tb hb); clear BK474; clear HB; have BK474 := n0_; have HB := n1_; clear n0_ n1_; (try clear hb); (try clear hb2); (try clear hk); (try clear hi)))
  go_ret
  exact ⟨re_, tb⟩

end Go.Proofs.Ytcgpomicgbmdlaa.PFnBanks
namespace Go.Proofs.Ytcgpomicgbmdlaa.PFnBanks
open Go.RowKit Go.Proofs.YtcgpomicgbmdlaaW.PrintWords Go.Proofs.YtcgpomicgbmdlaaW.PrintLast Go.Proofs.YtcgpomicgbmdlaaW.PrintMore
attribute [local go_sem] max2_int min2_int max_two min_two max_three min_three max_four min_four   -- for this text's walks alone
set_option linter.unusedVariables false
set_option linter.unusedSimpArgs false

/-! ### impl_RunSweeps: function 36 -/
def impl_RunSweeps.f (k : Nat) (a0_0 : Cx) (a0_1 : Cx) (a0_2 : Cx) (l0_3 : List (S66)) (l1 : List (S39)) (a2 : Int) : Option ((List (S39)) × (List (S39)) × Int × Bool × Bool) := (impl_listFor.f k a0_0 a0_1 a0_2 l0_3 l1).bind fun t480 => (if t480 = true then ((impl_in.f a2 0 50).bind fun t481 => (if t481 = true then ((impl_Feeder_sweeps_f82.f k a0_0 a0_1 a0_2 l0_3 l1 a2).bind fun bt482 => (some (bt482.1, bt482.2.1, bt482.2.2.1, bt482.2.2.2.1, true))) else (some (([] : List (S39)), ([] : List (S39)), 0, false, false)))) else (some (([] : List (S39)), ([] : List (S39)), 0, false, false)))
theorem impl_RunSweeps.mono : ∀ a0 a1 a2 a3 a4 a5 k, LeO (impl_RunSweeps.f k a0 a1 a2 a3 a4 a5) (impl_RunSweeps.f (k + 1) a0 a1 a2 a3 a4 a5) := by
 intro a0 a1 a2 a3 a4 a5 k
 unfold impl_RunSweeps.f
 repeat' first
   | (with_reducible exact impl_Feeder_sweeps_f82.mono _ _ _ _ _ _ _)
   | (with_reducible exact impl_listFor.mono _ _ _ _ _ _)
   | (with_reducible exact LeO.refl _)
   | (with_reducible exact LeO.none _)
   | (with_reducible refine LeO.ite ?_ ?_)
   | (with_reducible refine LeO.bind ?_ (fun _ => ?_))
   | exact impl_Feeder_sweeps_f82.mono _ _ _ _ _ _ _
   | exact impl_listFor.mono _ _ _ _ _ _
   | exact LeO.none _
   | refine LeO.ite ?_ ?_
   | refine LeO.bind ?_ (fun _ => ?_)
set_option maxHeartbeats 8000000 in
set_option maxRecDepth 100000 in
theorem impl_RunSweeps.calls (k : Nat) (a0_0 : Cx) (a0_1 : Cx) (a0_2 : Cx) (A0_3 : Option Addr) (c0_3 : Nat) (l0_3 : List (S66)) (A1 : Option Addr) (c1 : Nat) (l1 : List (S39)) (a2 : Int) (r1 : List (S39)) (r2 : List (S39)) (r3 : Int) (r4 : Bool) (r5 : Bool) (w : World) (hr0_3 : Kd.C k66 w A0_3 l0_3.length l0_3) (hc0_3 : l0_3.length ≤ c0_3) (hr1 : Kd.C k39 w A1 l1.length l1) (hc1 : l1.length ≤ c1) (h : impl_RunSweeps.f k a0_0 a0_1 a0_2 l0_3 l1 a2 = some (r1, r2, r3, r4, r5)) :
  Calls Try.prog 36 #[.agg #[.complex .f32 a0_0.re a0_0.im, .complex .f32 a0_1.re a0_1.im, .complex .f32 a0_2.re a0_2.im, .slice A0_3 l0_3.length c0_3], .slice A1 l1.length c1, .int .i64 a2] w fun e w' => ∃ v0_ v1_ : Value, e = .returned (.tuple #[.agg #[v0_, v1_, .int .i64 r3, .bool r4], .bool r5]) ∧ Kd.R k39 39 w' w.heap.size (fun k_ => some k_ ≠ (v1_ : Value).ownBlock) v0_ r1 ∧ Kd.R k39 39 w' w.heap.size (fun k_ => some k_ ≠ (v0_ : Value).ownBlock) v1_ r2 ∧ Below w.heap.size w w' := by
 have hu42 := Try.underlying42
 have hu51 := Try.underlying51
 have HR0_3 := Aside0.mk hr0_3
 have HC0_3 := Aside0.mk hc0_3
 clear hr0_3 hc0_3
 have HR1 := Aside0.mk hr1
 have HC1 := Aside0.mk hc1
 clear hr1 hc1
 have HB := Aside0.mk (Below.refl w.heap.size w)
 have H : ((impl_listFor.f k a0_0 a0_1 a0_2 l0_3 l1).bind fun t480 => (if t480 = true then ((impl_in.f a2 0 50).bind fun t481 => (if t481 = true then ((impl_Feeder_sweeps_f82.f k a0_0 a0_1 a0_2 l0_3 l1 a2).bind fun bt482 => (some (bt482.1, bt482.2.1, bt482.2.2.1, bt482.2.2.2.1, true))) else (some (([] : List (S39)), ([] : List (S39)), 0, false, false)))) else (some (([] : List (S39)), ([] : List (S39)), 0, false, false)))) = some (r1, r2, r3, r4, r5) := h
 clear h
 replace H := Option.bind_eq_some_iff.mp H
 obtain ⟨t480, A40, H⟩ := H
 try dsimp only at H
 have A4 := Aside0.mk A40
 clear A40
 by_cases c5 : t480 = true
 ·subst c5
  rw [if_pos rfl] at H; try dsimp only at H
  replace H := Option.bind_eq_some_iff.mp H
  obtain ⟨t481, A60, H⟩ := H
  try dsimp only at H
  have A6 := Aside0.mk A60
  clear A60
  by_cases c7 : t481 = true
  ·subst c7
   rw [if_pos rfl] at H; try dsimp only at H
   replace H := Option.bind_eq_some_iff.mp H
   obtain ⟨⟨t482, t485, t488, t489, t490, t491, t492⟩, A80, H⟩ := H
   try dsimp only at H
   have A8 := Aside0.mk A80
   clear A80
   simp only [Option.some.injEq, Prod.mk.injEq] at H
   obtain ⟨rfl, rfl, rfl, rfl, rfl⟩ := H
   go_enter Try.func36, Try.ntmps36
   go_wp2_with (first | ((with_reducible refine gate_dst (N := 3) rfl ?_); refine box_event ?hg (N := 3) ?hd (cs := #[.complex .f32 a0_0.re a0_0.im, .complex .f32 a0_1.re a0_1.im, .complex .f32 a0_2.re a0_2.im, .slice A0_3 l0_3.length c0_3]) (t := 42) ?hr ?_; (case hd => rfl); (case hg => rfl); (case hr => first | (go_simp; done) | (go_simp; rfl)); intro gb476 hg w9 hbox hb; have n0_ := Aside0.mk (below_step tb hb); have n1_ := Aside0.mk (hbox); have n2_ := Aside0.mk ((by rw [hg]; exact (below_size tb) : w.heap.size ≤ gb476)); have n3_ := Aside0.mk ((by rw [hg]; exact (below_size tb) : w.heap.size ≤ gb476)); clear HB; have HB := n0_; have BK476 := n1_; have GW476 := n2_; have GE476 := n3_; clear n0_ n1_ n2_ n3_; clear hb hbox hg; have HI476 := Aside0.mk (show IsS42 w _ gb476 a0_0 a0_1 a0_2 l0_3 from ⟨_, _, BK476.out, (by first | exact GE476.out | exact GW476.out), HR0_3.out, HC0_3.out⟩)) | ((with_reducible refine gate_dst (N := 6) rfl ?_); refine box_event ?hg (N := 6) ?hd (cs := #[.slice none 0 0, .slice none 0 0, .int .i64 0, .bool false]) (t := 51) ?hr ?_; (case hd => rfl); (case hg => rfl); (case hr => first | (go_simp; done) | (go_simp; rfl)); intro gb477 hg w10 hbox hb; have n0_ := Aside0.mk (IsS42.below (by have hi_ := HI476.out; exact IsS42.up) hb); have n1_ := Aside0.mk (below_step (by have ge_ := IsS42.ge HI476.out; exact tb) hb); have n2_ := Aside0.mk (hbox); have n3_ := Aside0.mk ((by rw [hg]; exact (below_size (by have ge_ := IsS42.ge HI476.out; exact tb)) : w.heap.size ≤ gb477)); have n4_ := Aside0.mk ((by rw [hg]; exact (below_size (by have ge_ := IsS42.ge HI476.out; exact tb)) : w.heap.size ≤ gb477)); have n5_ := Aside0.mk ((by rw [hg]; exact Nat.ne_of_lt (IsS42.lt (show IsS42 w _ gb476 a0_0 a0_1 a0_2 l0_3 from by have hi_ := HI476.out; exact IsS42.up)) : gb476 ≠ gb477)); have n6_ := Aside0.mk ((by rw [hg]; exact Nat.ne_of_gt (IsS42.lt (show IsS42 w _ gb476 a0_0 a0_1 a0_2 l0_3 from by have hi_ := HI476.out; exact IsS42.up)) : gb477 ≠ gb476)); clear HI476; clear HB; have HI476 := n0_; have HB := n1_; have BK477 := n2_; have GW477 := n3_; have GE477 := n4_; have NB476_477 := n5_; have NB477_476 := n6_; clear n0_ n1_ n2_ n3_ n4_ n5_ n6_; clear hb hbox hg; obtain ⟨ASz11_3, cSz11_3, HGz11, hgz11, HSz11_3, HLz11_3⟩ := HI476.out; have hcz11_0 := cellS42_0 HGz11; have hcz11_1 := cellS42_1 HGz11; have hcz11_2 := cellS42_2 HGz11; have hcz11_3 := cellS42_3 HGz11; have hfz11_0 := blk_frozen HGz11 0; have hfz11_1 := blk_frozen HGz11 1; have hfz11_2 := blk_frozen HGz11 2; clear HGz11 hgz11; have HR479 := Aside0.mk HSz11_3; have HC479 := Aside0.mk HLz11_3) | ((with_reducible refine gate_callee (f := 80) rfl ?_); refine gx_ (some 10) Try.func80 #[.agg #[.complex .f32 a0_0.re a0_0.im, .complex .f32 a0_1.re a0_1.im, .complex .f32 a0_2.re a0_2.im, .slice ASz11_3 l0_3.length cSz11_3], .slice A1 l1.length c1] ?_; (with_reducible refine (impl_listFor.calls k a0_0 a0_1 a0_2 _ _ l0_3 _ _ l1 true _ ?side1 ?side2 ?side3 ?side4 A4.out).mono ?_); (case side1 => exact cu ((Kd.C_below HR479.out HB.out))); (case side2 => exact HC479.out); (case side3 => exact cu ((Kd.C_below HR1.out HB.out))); (case side4 => exact HC1.out); rintro e w12 ⟨rfl, hb⟩; refine ⟨_, rfl, ?_⟩; have n0_ := Aside0.mk (IsS42.below (by have hi_ := HI476.out; exact IsS42.up) hb); have n1_ := Aside0.mk (blk_below (g := gb477) (o := .cells #[.slice none 0 0, .slice none 0 0, .int .i64 0, .bool false] 51 (0, 0)) (bu BK477.out) hb); have n2_ := Aside0.mk (below_step (by have ge_ := IsS42.ge HI476.out; exact tb) hb); clear HI476; clear BK477; clear HB; have HI476 := n0_; have BK477 := n1_; have HB := n2_; clear n0_ n1_ n2_; (try clear hb); (try clear hb2); (try clear hk); (try clear hi)) | (go_at_call 88; (with_reducible refine (impl_in.calls a2 0 50 true _ A6.out).mono ?_); rintro e w' ⟨rfl, ⟨nd, rfl⟩⟩; (try (rw [drewN_self w12]; generalize hq_ : World.drewN w12 _ = w12; have n0_ : Aside0 (w12.heap[gb477]? = some (.cells #[.slice none 0 0, .slice none 0 0, .int .i64 0, .bool false] 51 (0, 0))) := ⟨by rw [← hq_]; exact (bu BK477.out)⟩; have n1_ : Aside0 (IsS42 w w12 gb476 a0_0 a0_1 a0_2 l0_3) := ⟨by rw [← hq_]; exact (by have hi_ := HI476.out; exact IsS42.up)⟩; have n2_ : Aside0 (Below w.heap.size w w12) := ⟨by rw [← hq_]; exact (by have ge_ := IsS42.ge HI476.out; exact tb)⟩; clear BK477 HI476 HB hq_; have BK477 := n0_; have HI476 := n1_; have HB := n2_; clear n0_ n1_ n2_))) | ((with_reducible refine gate_callee (f := 92) rfl ?_); refine gx_ (some 20) Try.func92 #[.pointer (some ⟨gb476, 0, none⟩), .slice A1 l1.length c1, .int .i64 a2, .func (.func 82) #[] #[]] ?_; (with_reducible refine (impl_Feeder_sweeps_f82.calls k gb476 a0_0 a0_1 a0_2 l0_3 _ _ l1 a2  t482 t485 t488 t489 t490 t491 t492 w _ ?side1 ?side2 ?side3 ?side4 A8.out).mono ?_); (case side1 => have hi_ := HI476.out; exact IsS42.up); (case side2 => have ge_ := IsS42.ge HI476.out; exact tb); (case side3 => exact Kd.C_foot_came k39_heap HR1.out (by have ge_ := IsS42.ge HI476.out; exact tb) (IsS42.ge HI476.out)); (case side4 => exact HC1.out); rintro e w13 ⟨v483, v486, rfl, ho0, ho1, hi, hb, hk⟩; refine ⟨_, rfl, ?_⟩; have n0_ := Aside0.mk (KeepBut.blk hk (g' := gb477) (o := .cells #[.slice none 0 0, .slice none 0 0, .int .i64 0, .bool false] 51 (0, 0)) (bu BK477.out) NB477_476.out (by simp)); have n1_ := Aside0.mk (Kd.R_lower ho0 (below_size (by have ge_ := IsS42.ge HI476.out; exact tb))); have n2_ := Aside0.mk (Kd.R_lower ho1 (below_size (by have ge_ := IsS42.ge HI476.out; exact tb))); have n3_ := Aside0.mk (hb); have n4_ := Aside0.mk (hi); clear BK477; clear HB; clear HI476; have BK477 := n0_; have HO484 := n1_; have HO487 := n2_; have HB := n3_; have HI476 := n4_; clear n0_ n1_ n2_ n3_ n4_; (try clear hb); (try clear hb2); (try clear hk); (try clear hi); (try clear ho0); (try clear ho1); obtain ⟨Ao14, co14, eo14⟩ := Kd.R_slice HO484.out; subst eo14; have hnb15 := NB477_476.out; have hnc15 := NB476_477.out; have hcz16_0 : w13.cell? ⟨gb477, 0, none⟩ = some (.slice none 0 0) := (blk_cell BK477.out 0).trans rfl; have hcz16_1 : w13.cell? ⟨gb477, 1, none⟩ = some (.slice none 0 0) := (blk_cell BK477.out 1).trans rfl; have hcz16_2 : w13.cell? ⟨gb477, 2, none⟩ = some (.int .i64 0) := (blk_cell BK477.out 2).trans rfl; have hcz16_3 : w13.cell? ⟨gb477, 3, none⟩ = some (.bool false) := (blk_cell BK477.out 3).trans rfl; have hfz16_0 := blk_frozen BK477.out 0; have hfz16_1 := blk_frozen BK477.out 1; have hfz16_2 := blk_frozen BK477.out 2; have hfz16_3 := blk_frozen BK477.out 3; obtain ⟨Ao17, co17, eo17⟩ := Kd.R_slice HO487.out; subst eo17))
   refine bodyPost_ret (results_ct rfl _ _ gb477 51 #[.slice Ao14 t482.length co14, .slice Ao17 t485.length co17, .int .i64 t488, .bool t489] (0, 0) _ rfl (by refine bu ?_; refine blk_put (cs := #[.slice Ao14 t482.length co14, .slice Ao17 t485.length co17, .int .i64 t488, .bool false]) ?_ 3 _ rfl; refine bu ?_; refine blk_put (cs := #[.slice Ao14 t482.length co14, .slice Ao17 t485.length co17, .int .i64 0, .bool false]) ?_ 2 _ rfl; refine bu ?_; refine blk_put (cs := #[.slice Ao14 t482.length co14, .slice none 0 0, .int .i64 0, .bool false]) ?_ 1 _ rfl; refine bu ?_; refine blk_put (cs := #[.slice none 0 0, .slice none 0 0, .int .i64 0, .bool false]) ?_ 0 _ rfl; refine bu ?_; exact BK477.out) Try.underlying51 rfl (by kernel_rfl)) rfl ?_
   exact ⟨_, _, re_, by refine ru ?_; exact Kd.R_mono (Kd.R_far (p := ⟨gb477, 3, none⟩) (Kd.R_far (p := ⟨gb477, 2, none⟩) (Kd.R_far (p := ⟨gb477, 1, none⟩) (Kd.R_far (p := ⟨gb477, 0, none⟩) (Kd.R_types HO484.out BK477.out (by decide)) (fun _ hk => hk.2) (.slice Ao14 t482.length co14)) (fun _ hk => hk.2) (.slice Ao17 t485.length co17)) (fun _ hk => hk.2) (.int .i64 t488)) (fun _ hk => hk.2) (.bool t489)) (fun _ hk => hk.1), by refine ru ?_; exact Kd.R_mono (Kd.R_far (p := ⟨gb477, 3, none⟩) (Kd.R_far (p := ⟨gb477, 2, none⟩) (Kd.R_far (p := ⟨gb477, 1, none⟩) (Kd.R_far (p := ⟨gb477, 0, none⟩) (Kd.R_types HO487.out BK477.out (by decide)) (fun _ hk => hk.2) (.slice Ao14 t482.length co14)) (fun _ hk => hk.2) (.slice Ao17 t485.length co17)) (fun _ hk => hk.2) (.int .i64 t488)) (fun _ hk => hk.2) (.bool t489)) (fun _ hk => hk.1), by have ge_ := IsS42.ge HI476.out; exact tb⟩
  ·replace c7 := Bool.eq_false_iff.mpr c7
   subst c7
   have H1 : (some (([] : List (S39)), ([] : List (S39)), 0, false, false)) = some (r1, r2, r3, r4, r5) := by rw [if_neg (show ¬ (false = true) by decide)] at H; exact H
   clear H
   have H := H1
   clear H1
   simp only [Option.some.injEq, Prod.mk.injEq] at H
   obtain ⟨rfl, rfl, rfl, rfl, rfl⟩ := H
   go_enter Try.func36, Try.ntmps36
   go_wp2_with (first | ((with_reducible refine gate_dst (N := 3) rfl ?_); refine box_event ?hg (N := 3) ?hd (cs := #[.complex .f32 a0_0.re a0_0.im, .complex .f32 a0_1.re a0_1.im, .complex .f32 a0_2.re a0_2.im, .slice A0_3 l0_3.length c0_3]) (t := 42) ?hr ?_; (case hd => rfl); (case hg => rfl); (case hr => first | (go_simp; done) | (go_simp; rfl)); intro gb476 hg w18 hbox hb; have n0_ := Aside0.mk (below_step tb hb); have n1_ := Aside0.mk (hbox); have n2_ := Aside0.mk ((by rw [hg]; exact (below_size tb) : w.heap.size ≤ gb476)); have n3_ := Aside0.mk ((by rw [hg]; exact (below_size tb) : w.heap.size ≤ gb476)); clear HB; have HB := n0_; have BK476 := n1_; have GW476 := n2_; have GE476 := n3_; clear n0_ n1_ n2_ n3_; clear hb hbox hg; have HI476 := Aside0.mk (show IsS42 w _ gb476 a0_0 a0_1 a0_2 l0_3 from ⟨_, _, BK476.out, (by first | exact GE476.out | exact GW476.out), HR0_3.out, HC0_3.out⟩)) | ((with_reducible refine gate_dst (N := 6) rfl ?_); refine box_event ?hg (N := 6) ?hd (cs := #[.slice none 0 0, .slice none 0 0, .int .i64 0, .bool false]) (t := 51) ?hr ?_; (case hd => rfl); (case hg => rfl); (case hr => first | (go_simp; done) | (go_simp; rfl)); intro gb477 hg w19 hbox hb; have n0_ := Aside0.mk (IsS42.below (by have hi_ := HI476.out; exact IsS42.up) hb); have n1_ := Aside0.mk (below_step (by have ge_ := IsS42.ge HI476.out; exact tb) hb); have n2_ := Aside0.mk (hbox); have n3_ := Aside0.mk ((by rw [hg]; exact (below_size (by have ge_ := IsS42.ge HI476.out; exact tb)) : w.heap.size ≤ gb477)); have n4_ := Aside0.mk ((by rw [hg]; exact (below_size (by have ge_ := IsS42.ge HI476.out; exact tb)) : w.heap.size ≤ gb477)); have n5_ := Aside0.mk ((by rw [hg]; exact Nat.ne_of_lt (IsS42.lt (show IsS42 w _ gb476 a0_0 a0_1 a0_2 l0_3 from by have hi_ := HI476.out; exact IsS42.up)) : gb476 ≠ gb477)); have n6_ := Aside0.mk ((by rw [hg]; exact Nat.ne_of_gt (IsS42.lt (show IsS42 w _ gb476 a0_0 a0_1 a0_2 l0_3 from by have hi_ := HI476.out; exact IsS42.up)) : gb477 ≠ gb476)); clear HI476; clear HB; have HI476 := n0_; have HB := n1_; have BK477 := n2_; have GW477 := n3_; have GE477 := n4_; have NB476_477 := n5_; have NB477_476 := n6_; clear n0_ n1_ n2_ n3_ n4_ n5_ n6_; clear hb hbox hg; obtain ⟨ASz20_3, cSz20_3, HGz20, hgz20, HSz20_3, HLz20_3⟩ := HI476.out; have hcz20_0 := cellS42_0 HGz20; have hcz20_1 := cellS42_1 HGz20; have hcz20_2 := cellS42_2 HGz20; have hcz20_3 := cellS42_3 HGz20; have hfz20_0 := blk_frozen HGz20 0; have hfz20_1 := blk_frozen HGz20 1; have hfz20_2 := blk_frozen HGz20 2; clear HGz20 hgz20; have HR479 := Aside0.mk HSz20_3; have HC479 := Aside0.mk HLz20_3) | ((with_reducible refine gate_callee (f := 80) rfl ?_); refine gx_ (some 10) Try.func80 #[.agg #[.complex .f32 a0_0.re a0_0.im, .complex .f32 a0_1.re a0_1.im, .complex .f32 a0_2.re a0_2.im, .slice ASz20_3 l0_3.length cSz20_3], .slice A1 l1.length c1] ?_; (with_reducible refine (impl_listFor.calls k a0_0 a0_1 a0_2 _ _ l0_3 _ _ l1 true _ ?side1 ?side2 ?side3 ?side4 A4.out).mono ?_); (case side1 => exact cu ((Kd.C_below HR479.out HB.out))); (case side2 => exact HC479.out); (case side3 => exact cu ((Kd.C_below HR1.out HB.out))); (case side4 => exact HC1.out); rintro e w21 ⟨rfl, hb⟩; refine ⟨_, rfl, ?_⟩; have n0_ := Aside0.mk (IsS42.below (by have hi_ := HI476.out; exact IsS42.up) hb); have n1_ := Aside0.mk (blk_below (g := gb477) (o := .cells #[.slice none 0 0, .slice none 0 0, .int .i64 0, .bool false] 51 (0, 0)) (bu BK477.out) hb); have n2_ := Aside0.mk (below_step (by have ge_ := IsS42.ge HI476.out; exact tb) hb); clear HI476; clear BK477; clear HB; have HI476 := n0_; have BK477 := n1_; have HB := n2_; clear n0_ n1_ n2_; (try clear hb); (try clear hb2); (try clear hk); (try clear hi)) | (go_at_call 88; (with_reducible refine (impl_in.calls a2 0 50 false _ A6.out).mono ?_); rintro e w' ⟨rfl, ⟨nd, rfl⟩⟩; (try (rw [drewN_self w21]; generalize hq_ : World.drewN w21 _ = w21; have n0_ : Aside0 (w21.heap[gb477]? = some (.cells #[.slice none 0 0, .slice none 0 0, .int .i64 0, .bool false] 51 (0, 0))) := ⟨by rw [← hq_]; exact (bu BK477.out)⟩; have n1_ : Aside0 (IsS42 w w21 gb476 a0_0 a0_1 a0_2 l0_3) := ⟨by rw [← hq_]; exact (by have hi_ := HI476.out; exact IsS42.up)⟩; have n2_ : Aside0 (Below w.heap.size w w21) := ⟨by rw [← hq_]; exact (by have ge_ := IsS42.ge HI476.out; exact tb)⟩; clear BK477 HI476 HB hq_; have BK477 := n0_; have HI476 := n1_; have HB := n2_; clear n0_ n1_ n2_)); have hnb22 := NB477_476.out; have hnc22 := NB476_477.out; have hcz23_0 : w21.cell? ⟨gb477, 0, none⟩ = some (.slice none 0 0) := (blk_cell BK477.out 0).trans rfl; have hcz23_1 : w21.cell? ⟨gb477, 1, none⟩ = some (.slice none 0 0) := (blk_cell BK477.out 1).trans rfl; have hcz23_2 : w21.cell? ⟨gb477, 2, none⟩ = some (.int .i64 0) := (blk_cell BK477.out 2).trans rfl; have hcz23_3 : w21.cell? ⟨gb477, 3, none⟩ = some (.bool false) := (blk_cell BK477.out 3).trans rfl; have hfz23_0 := blk_frozen BK477.out 0; have hfz23_1 := blk_frozen BK477.out 1; have hfz23_2 := blk_frozen BK477.out 2; have hfz23_3 := blk_frozen BK477.out 3))
   refine bodyPost_ret (results_ct rfl _ _ gb477 51 #[.slice none 0 0, .slice none 0 0, .int .i64 0, .bool false] (0, 0) _ rfl (by refine bu ?_; refine blk_put (cs := #[.slice none 0 0, .slice none 0 0, .int .i64 0, .bool false]) ?_ 3 _ rfl; refine bu ?_; refine blk_put (cs := #[.slice none 0 0, .slice none 0 0, .int .i64 0, .bool false]) ?_ 2 _ rfl; refine bu ?_; refine blk_put (cs := #[.slice none 0 0, .slice none 0 0, .int .i64 0, .bool false]) ?_ 1 _ rfl; refine bu ?_; refine blk_put (cs := #[.slice none 0 0, .slice none 0 0, .int .i64 0, .bool false]) ?_ 0 _ rfl; refine bu ?_; exact BK477.out) Try.underlying51 rfl (by kernel_rfl)) rfl ?_
   exact ⟨_, _, re_, by first | exact Kd.R_nil _ _ _ _ _ | exact Kd.N_nil _ _ _ _ _ | exact Kd.V_nil _ _ _ _ _ | exact Kd.Q_nil _ _ _ _ _ | exact Kd.S_nil _ _ _ _ _, by first | exact Kd.R_nil _ _ _ _ _ | exact Kd.N_nil _ _ _ _ _ | exact Kd.V_nil _ _ _ _ _ | exact Kd.Q_nil _ _ _ _ _ | exact Kd.S_nil _ _ _ _ _, by have ge_ := IsS42.ge HI476.out; exact tb⟩
 ·replace c5 := Bool.eq_false_iff.mpr c5
  subst c5
  have H1 : (some (([] : List (S39)), ([] : List (S39)), 0, false, false)) = some (r1, r2, r3, r4, r5) := by rw [if_neg (show ¬ (false = true) by decide)] at H; exact H
  clear H
  have H := H1
  clear H1
  simp only [Option.some.injEq, Prod.mk.injEq] at H
  obtain ⟨rfl, rfl, rfl, rfl, rfl⟩ := H
  go_enter Try.func36, Try.ntmps36
  go_wp2_with (first | ((with_reducible refine gate_dst (N := 3) rfl ?_); refine box_event ?hg (N := 3) ?hd (cs := #[.complex .f32 a0_0.re a0_0.im, .complex .f32 a0_1.re a0_1.im, .complex .f32 a0_2.re a0_2.im, .slice A0_3 l0_3.length c0_3]) (t := 42) ?hr ?_; (case hd => rfl); (case hg => rfl); (case hr => first | (go_simp; done) | (go_simp; rfl)); intro gb476 hg w24 hbox hb; have n0_ := Aside0.mk (below_step tb hb); have n1_ := Aside0.mk (hbox); have n2_ := Aside0.mk ((by rw [hg]; exact (below_size tb) : w.heap.size ≤ gb476)); have n3_ := Aside0.mk ((by rw [hg]; exact (below_size tb) : w.heap.size ≤ gb476)); clear HB; have HB := n0_; have BK476 := n1_; have GW476 := n2_; have GE476 := n3_; clear n0_ n1_ n2_ n3_; clear hb hbox hg; have HI476 := Aside0.mk (show IsS42 w _ gb476 a0_0 a0_1 a0_2 l0_3 from ⟨_, _, BK476.out, (by first | exact GE476.out | exact GW476.out), HR0_3.out, HC0_3.out⟩)) | ((with_reducible refine gate_dst (N := 6) rfl ?_); refine box_event ?hg (N := 6) ?hd (cs := #[.slice none 0 0, .slice none 0 0, .int .i64 0, .bool false]) (t := 51) ?hr ?_; (case hd => rfl); (case hg => rfl); (case hr => first | (go_simp; done) | (go_simp; rfl)); intro gb477 hg w25 hbox hb; have n0_ := Aside0.mk (IsS42.below (by have hi_ := HI476.out; exact IsS42.up) hb); have n1_ := Aside0.mk (below_step (by have ge_ := IsS42.ge HI476.out; exact tb) hb); have n2_ := Aside0.mk (hbox); have n3_ := Aside0.mk ((by rw [hg]; exact (below_size (by have ge_ := IsS42.ge HI476.out; exact tb)) : w.heap.size ≤ gb477)); have n4_ := Aside0.mk ((by rw [hg]; exact (below_size (by have ge_ := IsS42.ge HI476.out; exact tb)) : w.heap.size ≤ gb477)); have n5_ := Aside0.mk ((by rw [hg]; exact Nat.ne_of_lt (IsS42.lt (show IsS42 w _ gb476 a0_0 a0_1 a0_2 l0_3 from by have hi_ := HI476.out; exact IsS42.up)) : gb476 ≠ gb477)); have n6_ := Aside0.mk ((by rw [hg]; exact Nat.ne_of_gt (IsS42.lt (show IsS42 w _ gb476 a0_0 a0_1 a0_2 l0_3 from by have hi_ := HI476.out; exact IsS42.up)) : gb477 ≠ gb476)); clear HI476; clear HB; have HI476 := n0_; have HB := n1_; have BK477 := n2_; have GW477 := n3_; have GE477 := n4_; have NB476_477 := n5_; have NB477_476 := n6_; clear n0_ n1_ n2_ n3_ n4_ n5_ n6_; clear hb hbox hg; obtain ⟨ASz26_3, cSz26_3, HGz26, hgz26, HSz26_3, HLz26_3⟩ := HI476.out; have hcz26_0 := cellS42_0 HGz26; have hcz26_1 := cellS42_1 HGz26; have hcz26_2 := cellS42_2 HGz26; have hcz26_3 := cellS42_3 HGz26; have hfz26_0 := blk_frozen HGz26 0; have hfz26_1 := blk_frozen HGz26 1; have hfz26_2 := blk_frozen HGz26 2; clear HGz26 hgz26; have HR479 := Aside0.mk HSz26_3; have HC479 := Aside0.mk HLz26_3) | ((with_reducible refine gate_callee (f := 80) rfl ?_); refine gx_ (some 10) Try.func80 #[.agg #[.complex .f32 a0_0.re a0_0.im, .complex .f32 a0_1.re a0_1.im, .complex .f32 a0_2.re a0_2.im, .slice ASz26_3 l0_3.length cSz26_3], .slice A1 l1.length c1] ?_; (with_reducible refine (impl_listFor.calls k a0_0 a0_1 a0_2 _ _ l0_3 _ _ l1 false _ ?side1 ?side2 ?side3 ?side4 A4.out).mono ?_); (case side1 => exact cu ((Kd.C_below HR479.out HB.out))); (case side2 => exact HC479.out); (case side3 => exact cu ((Kd.C_below HR1.out HB.out))); (case side4 => exact HC1.out); rintro e w27 ⟨rfl, hb⟩; refine ⟨_, rfl, ?_⟩; have n0_ := Aside0.mk (IsS42.below (by have hi_ := HI476.out; exact IsS42.up) hb); have n1_ := Aside0.mk (blk_below (g := gb477) (o := .cells #[.slice none 0 0, .slice none 0 0, .int .i64 0, .bool false] 51 (0, 0)) (bu BK477.out) hb); have n2_ := Aside0.mk (below_step (by have ge_ := IsS42.ge HI476.out; exact tb) hb); clear HI476; clear BK477; clear HB; have HI476 := n0_; have BK477 := n1_; have HB := n2_; clear n0_ n1_ n2_; (try clear hb); (try clear hb2); (try clear hk); (try clear hi); have hnb28 := NB477_476.out; have hnc28 := NB476_477.out; have hcz29_0 : w27.cell? ⟨gb477, 0, none⟩ = some (.slice none 0 0) := (blk_cell BK477.out 0).trans rfl; have hcz29_1 : w27.cell? ⟨gb477, 1, none⟩ = some (.slice none 0 0) := (blk_cell BK477.out 1).trans rfl; have hcz29_2 : w27.cell? ⟨gb477, 2, none⟩ = some (.int .i64 0) := (blk_cell BK477.out 2).trans rfl; have hcz29_3 : w27.cell? ⟨gb477, 3, none⟩ = some (.bool false) := (blk_cell BK477.out 3).trans rfl; have hfz29_0 := blk_frozen BK477.out 0; have hfz29_1 := blk_frozen BK477.out 1; have hfz29_2 := blk_frozen BK477.out 2; have hfz29_3 := blk_frozen BK477.out 3))
  refine bodyPost_ret (results_ct rfl _ _ gb477 51 #[.slice none 0 0, .slice none 0 0, .int .i64 0, .bool false] (0, 0) _ rfl (by refine bu ?_; refine blk_put (cs := #[.slice none 0 0, .slice none 0 0, .int .i64 0, .bool false]) ?_ 3 _ rfl; refine bu ?_; refine blk_put (cs := #[.slice none 0 0, .slice none 0 0, .int .i64 0, .bool false]) ?_ 2 _ rfl; refine bu ?_; refine blk_put (cs := #[.slice none 0 0, .slice none 0 0, .int .i64 0, .bool false]) ?_ 1 _ rfl; refine bu ?_; refine blk_put (cs := #[.slice none 0 0, .slice none 0 0, .int .i64 0, .bool false]) ?_ 0 _ rfl; refine bu ?_; exact BK477.out) Try.underlying51 rfl (by kernel_rfl)) rfl ?_
  exact ⟨_, _, re_, by first | exact Kd.R_nil _ _ _ _ _ | exact Kd.N_nil _ _ _ _ _ | exact Kd.V_nil _ _ _ _ _ | exact Kd.Q_nil _ _ _ _ _ | exact Kd.S_nil _ _ _ _ _, by first | exact Kd.R_nil _ _ _ _ _ | exact Kd.N_nil _ _ _ _ _ | exact Kd.V_nil _ _ _ _ _ | exact Kd.Q_nil _ _ _ _ _ | exact Kd.S_nil _ _ _ _ _, by have ge_ := IsS42.ge HI476.out; exact tb⟩

end Go.Proofs.Ytcgpomicgbmdlaa.PFnBanks
namespace Go.Proofs.Ytcgpomicgbmdlaa.PFnBanks
open Go.RowKit Go.Proofs.YtcgpomicgbmdlaaW.PrintWords Go.Proofs.YtcgpomicgbmdlaaW.PrintLast Go.Proofs.YtcgpomicgbmdlaaW.PrintMore
attribute [local go_sem] max2_int min2_int max_two min_two max_three min_three max_four min_four   -- for this text's walks alone
set_option linter.unusedVariables false
set_option linter.unusedSimpArgs false

-- NOT PRINTED: function 142 (impl_flowFor)

end Go.Proofs.Ytcgpomicgbmdlaa.PFnBanks
namespace Go.Proofs.Ytcgpomicgbmdlaa.PFnBanks
open Go.RowKit Go.Proofs.YtcgpomicgbmdlaaW.PrintWords Go.Proofs.YtcgpomicgbmdlaaW.PrintLast Go.Proofs.YtcgpomicgbmdlaaW.PrintMore
attribute [local go_sem] max2_int min2_int max_two min_two max_three min_three max_four min_four   -- for this text's walks alone
set_option linter.unusedVariables false
set_option linter.unusedSimpArgs false

/-! ### impl_IsFlow: function 98 -/
-- MANUAL 1 1
theorem isf_in (r : Int) : impl_in.f r 0 50 = some (decide (0 ≤ r ∧ r ≤ 50)) := by
 unfold impl_in.f
 by_cases h : r ≥ 0
 ·rw [if_pos h]
  congr 1
  exact decide_eq_decide.mpr ⟨fun h2 => ⟨h, h2⟩, fun h2 => h2.2⟩
 ·rw [if_neg h]
  congr 1
  exact (decide_eq_false (fun h2 => h h2.1)).symm
set_option maxHeartbeats 8000000 in
set_option maxRecDepth 100000 in
theorem flowFor_calls (g1 g2 : Nat) (A Av Ac : Option Addr) (n c nv cv nc cc : Nat) (r : Int) (w : World) (h0 : w.cell? ⟨g1, 3, none⟩ = some (.slice A n c)) (h1 : w.cell? ⟨g2, 0, none⟩ = some (.slice Av nv cv)) (h2 : w.cell? ⟨g2, 1, none⟩ = some (.slice Ac nc cc)) (h3 : w.cell? ⟨g2, 2, none⟩ = some (.int .i64 r)) :
  Calls Try.prog 142 #[.pointer (some ⟨g1, 0, none⟩), .pointer (some ⟨g2, 0, none⟩)] w fun e w' => e = .returned (.bool (decide (nv = n) && (decide (nc = n) && decide (0 ≤ r ∧ r ≤ 50)))) ∧ Drawn0 w w' := by
 have HI := Aside0.mk (isf_in r)
 have hu42 := Try.underlying42
 have hu51 := Try.underlying51
 by_cases c1 : nv = n
 ·subst c1
  by_cases c2 : nc = nv
  ·subst c2
   obtain ⟨b, hb⟩ : ∃ b, b = decide (0 ≤ r ∧ r ≤ 50) := ⟨_, rfl⟩
   rw [← hb] at HI ⊢
   clear hb
   go_enter Try.func142, Try.ntmps142
   go_wp2_with (first | (go_at_call 88; (with_reducible refine (impl_in.calls r 0 50 b _ HI.out).mono ?_); rintro e w' ⟨rfl, ⟨nd, rfl⟩⟩))
   go_ret
   exact ⟨by simp, dr_⟩
  ·have d2 : decide (nc = nv) = false := decide_eq_false c2
   have d3 : ((nc : Int) == (nv : Int)) = false := beq_eq_false_iff_ne.mpr (by omega)
   go_enter Try.func142, Try.ntmps142
   go_wp2_with (first | (go_at_call 88; (with_reducible refine (impl_in.calls r 0 50 _ _ HI.out).mono ?_); rintro e w' ⟨rfl, ⟨nd, rfl⟩⟩))
   go_ret
   exact ⟨by simp [d2], dr_⟩
 ·have d2 : decide (nv = n) = false := decide_eq_false c1
  have d3 : ((nv : Int) == (n : Int)) = false := beq_eq_false_iff_ne.mpr (by omega)
  go_enter Try.func142, Try.ntmps142
  go_wp2_with (first | (go_at_call 88; (with_reducible refine (impl_in.calls r 0 50 _ _ HI.out).mono ?_); rintro e w' ⟨rfl, ⟨nd, rfl⟩⟩))
  go_ret
  exact ⟨by simp [d2], dr_⟩
def impl_IsFlow.f (k : Nat) (a0_0 : Cx) (a0_1 : Cx) (a0_2 : Cx) (l0_3 : List (S66)) (l1_0 : List (S39)) (l1_1 : List (S39)) (a1_2 : Int) (a1_3 : Bool) : Option Bool :=
 (impl_ValidFeeder.f k a0_0 a0_1 a0_2 l0_3).bind fun t => if t = true then some (decide (l1_0.length = l0_3.length) && (decide (l1_1.length = l0_3.length) && decide (0 ≤ a1_2 ∧ a1_2 ≤ 50))) else some false
theorem impl_IsFlow.mono : ∀ a0 a1 a2 a3 a4 a5 a6 a7 k, LeO (impl_IsFlow.f k a0 a1 a2 a3 a4 a5 a6 a7) (impl_IsFlow.f (k + 1) a0 a1 a2 a3 a4 a5 a6 a7) := by
 intro a0 a1 a2 a3 a4 a5 a6 a7 k
 unfold impl_IsFlow.f
 repeat' first
   | (with_reducible exact impl_ValidFeeder.mono _ _ _ _ _)
   | (with_reducible exact LeO.refl _)
   | (with_reducible exact LeO.none _)
   | (with_reducible refine LeO.ite ?_ ?_)
   | (with_reducible refine LeO.bind ?_ (fun _ => ?_))
set_option maxHeartbeats 8000000 in
set_option maxRecDepth 100000 in
theorem impl_IsFlow.calls (k : Nat) (a0_0 : Cx) (a0_1 : Cx) (a0_2 : Cx) (A0_3 : Option Addr) (c0_3 : Nat) (l0_3 : List (S66)) (A1_0 : Option Addr) (c1_0 : Nat) (l1_0 : List (S39)) (A1_1 : Option Addr) (c1_1 : Nat) (l1_1 : List (S39)) (a1_2 : Int) (a1_3 : Bool) (r : Bool) (w : World) (hr0_3 : Kd.C k66 w A0_3 l0_3.length l0_3) (hc0_3 : l0_3.length ≤ c0_3) (hr1_0 : Kd.C k39 w A1_0 l1_0.length l1_0) (hc1_0 : l1_0.length ≤ c1_0) (hr1_1 : Kd.C k39 w A1_1 l1_1.length l1_1) (hc1_1 : l1_1.length ≤ c1_1) (h : impl_IsFlow.f k a0_0 a0_1 a0_2 l0_3 l1_0 l1_1 a1_2 a1_3 = some r) :
  Calls Try.prog 98 #[.agg #[.complex .f32 a0_0.re a0_0.im, .complex .f32 a0_1.re a0_1.im, .complex .f32 a0_2.re a0_2.im, .slice A0_3 l0_3.length c0_3], .agg #[.slice A1_0 l1_0.length c1_0, .slice A1_1 l1_1.length c1_1, .int .i64 a1_2, .bool a1_3]] w fun e w' => e = .returned (.bool r) ∧ Below w.heap.size w w' := by
 have hu42 := Try.underlying42
 have hu51 := Try.underlying51
 have HR := Aside0.mk hr0_3
 have HC := Aside0.mk hc0_3
 have HB0 := Aside0.mk (Below.refl w.heap.size w)
 unfold impl_IsFlow.f at h
 replace h := Option.bind_eq_some_iff.mp h
 obtain ⟨t, HV, h⟩ := h
 replace HV := Aside0.mk HV
 clear hr0_3 hc0_3 hr1_0 hc1_0 hr1_1 hc1_1
 cases t with
 | true =>
  rw [if_pos rfl] at h
  replace h := Option.some.inj h
  have HE := Aside0.mk h
  clear h
  go_enter Try.func98, Try.ntmps98
  go_wp2_with (first
   | ((with_reducible refine gate_dst (N := 2) rfl ?_); refine box_event ?hg (N := 2) ?hd (cs := #[.complex .f32 a0_0.re a0_0.im, .complex .f32 a0_1.re a0_1.im, .complex .f32 a0_2.re a0_2.im, .slice A0_3 l0_3.length c0_3]) (t := 42) ?hr ?_; (case hd => rfl); (case hg => rfl); (case hr => first | (go_simp; done) | (go_simp; rfl)); intro g1 hg w1 hbox hb; have HB1 := Aside0.mk hb; have BK1 := Aside0.mk hbox; clear hb hbox hg)
   | ((with_reducible refine gate_dst (N := 3) rfl ?_); refine box_event ?hg (N := 3) ?hd (cs := #[.slice A1_0 l1_0.length c1_0, .slice A1_1 l1_1.length c1_1, .int .i64 a1_2, .bool a1_3]) (t := 51) ?hr ?_; (case hd => rfl); (case hg => rfl); (case hr => first | (go_simp; done) | (go_simp; rfl)); intro g2 hg w2 hbox hb; have HB2 := Aside0.mk (below_step HB1.out hb); have BK1b := Aside0.mk (blk_below BK1.out hb); have BK2 := Aside0.mk hbox; have hcz_0 : w2.cell? ⟨g1, 0, none⟩ = some (.complex .f32 a0_0.re a0_0.im) := (blk_cell BK1b.out 0).trans rfl; have hcz_1 : w2.cell? ⟨g1, 1, none⟩ = some (.complex .f32 a0_1.re a0_1.im) := (blk_cell BK1b.out 1).trans rfl; have hcz_2 : w2.cell? ⟨g1, 2, none⟩ = some (.complex .f32 a0_2.re a0_2.im) := (blk_cell BK1b.out 2).trans rfl; have hcz_3 : w2.cell? ⟨g1, 3, none⟩ = some (.slice A0_3 l0_3.length c0_3) := (blk_cell BK1b.out 3).trans rfl; clear hb hbox hg)
   | (go_at_call 34; (with_reducible refine (impl_ValidFeeder.calls k a0_0 a0_1 a0_2 A0_3 c0_3 l0_3 true _ ?s1 HC.out HV.out).mono ?_); (case s1 => exact Kd.C_below HR.out HB2.out); rintro e w3 ⟨rfl, hb⟩; have HB3 := Aside0.mk (below_step HB2.out hb); have BK1c := Aside0.mk (blk_below BK1b.out hb); have BK2c := Aside0.mk (blk_below BK2.out hb); clear hb hcz_0 hcz_1 hcz_2 hcz_3)
   | (go_at_call 142; (with_reducible refine (flowFor_calls g1 g2 A0_3 A1_0 A1_1 l0_3.length c0_3 l1_0.length c1_0 l1_1.length c1_1 a1_2 _ ((blk_cell BK1c.out 3).trans rfl) ((blk_cell BK2c.out 0).trans rfl) ((blk_cell BK2c.out 1).trans rfl) ((blk_cell BK2c.out 2).trans rfl)).mono ?_); rw [HE.out]; rintro e w4 ⟨rfl, ⟨nd, rfl⟩⟩))
  go_ret
  exact ⟨by simp, by first | exact HB3.out | exact pw_below_drewN HB3.out _⟩
 | false =>
  rw [if_neg (by decide)] at h
  obtain rfl := Option.some.inj h
  clear h
  go_enter Try.func98, Try.ntmps98
  go_wp2_with (first
   | ((with_reducible refine gate_dst (N := 2) rfl ?_); refine box_event ?hg (N := 2) ?hd (cs := #[.complex .f32 a0_0.re a0_0.im, .complex .f32 a0_1.re a0_1.im, .complex .f32 a0_2.re a0_2.im, .slice A0_3 l0_3.length c0_3]) (t := 42) ?hr ?_; (case hd => rfl); (case hg => rfl); (case hr => first | (go_simp; done) | (go_simp; rfl)); intro g1 hg w1 hbox hb; have HB1 := Aside0.mk hb; have BK1 := Aside0.mk hbox; clear hb hbox hg)
   | ((with_reducible refine gate_dst (N := 3) rfl ?_); refine box_event ?hg (N := 3) ?hd (cs := #[.slice A1_0 l1_0.length c1_0, .slice A1_1 l1_1.length c1_1, .int .i64 a1_2, .bool a1_3]) (t := 51) ?hr ?_; (case hd => rfl); (case hg => rfl); (case hr => first | (go_simp; done) | (go_simp; rfl)); intro g2 hg w2 hbox hb; have HB2 := Aside0.mk (below_step HB1.out hb); have BK1b := Aside0.mk (blk_below BK1.out hb); have BK2 := Aside0.mk hbox; have hcz_0 : w2.cell? ⟨g1, 0, none⟩ = some (.complex .f32 a0_0.re a0_0.im) := (blk_cell BK1b.out 0).trans rfl; have hcz_1 : w2.cell? ⟨g1, 1, none⟩ = some (.complex .f32 a0_1.re a0_1.im) := (blk_cell BK1b.out 1).trans rfl; have hcz_2 : w2.cell? ⟨g1, 2, none⟩ = some (.complex .f32 a0_2.re a0_2.im) := (blk_cell BK1b.out 2).trans rfl; have hcz_3 : w2.cell? ⟨g1, 3, none⟩ = some (.slice A0_3 l0_3.length c0_3) := (blk_cell BK1b.out 3).trans rfl; clear hb hbox hg)
   | (go_at_call 34; (with_reducible refine (impl_ValidFeeder.calls k a0_0 a0_1 a0_2 A0_3 c0_3 l0_3 false _ ?s1 HC.out HV.out).mono ?_); (case s1 => exact Kd.C_below HR.out HB2.out); rintro e w3 ⟨rfl, hb⟩; have HB3 := Aside0.mk (below_step HB2.out hb); clear hb hcz_0 hcz_1 hcz_2 hcz_3))
  go_ret
  exact ⟨by simp, HB3.out⟩

end Go.Proofs.Ytcgpomicgbmdlaa.PFnBanks
namespace Go.Proofs.Ytcgpomicgbmdlaa.PFnBanks
open Go.RowKit Go.Proofs.YtcgpomicgbmdlaaW.PrintWords Go.Proofs.YtcgpomicgbmdlaaW.PrintLast Go.Proofs.YtcgpomicgbmdlaaW.PrintMore
attribute [local go_sem] max2_int min2_int max_two min_two max_three min_three max_four min_four   -- for this text's walks alone
set_option linter.unusedVariables false
set_option linter.unusedSimpArgs false

/-! ### impl_LowestBus: function 37 -/
def impl_LowestBus.f (k : Nat) (a0_0 : Cx) (a0_1 : Cx) (a0_2 : Cx) (l0_3 : List (S66)) (l1_0 : List (S39)) (l1_1 : List (S39)) (a1_2 : Int) (a1_3 : Bool) : Option (Int × Nat × Bool) := (impl_IsFlow.f k a0_0 a0_1 a0_2 l0_3 l1_0 l1_1 a1_2 a1_3).bind fun t495 => (if t495 = true then ((impl_lowest.f k l1_0).bind fun bt496 => (some (bt496.1, bt496.2.1, bt496.2.2))) else (some (0, 0, false)))
theorem impl_LowestBus.mono : ∀ a0 a1 a2 a3 a4 a5 a6 a7 k, LeO (impl_LowestBus.f k a0 a1 a2 a3 a4 a5 a6 a7) (impl_LowestBus.f (k + 1) a0 a1 a2 a3 a4 a5 a6 a7) := by
 intro a0 a1 a2 a3 a4 a5 a6 a7 k
 unfold impl_LowestBus.f
 repeat' first
   | (with_reducible exact impl_IsFlow.mono _ _ _ _ _ _ _ _ _)
   | (with_reducible exact impl_lowest.mono _ _)
   | (with_reducible exact LeO.refl _)
   | (with_reducible exact LeO.none _)
   | (with_reducible refine LeO.ite ?_ ?_)
   | (with_reducible refine LeO.bind ?_ (fun _ => ?_))
   | exact impl_IsFlow.mono _ _ _ _ _ _ _ _ _
   | exact impl_lowest.mono _ _
   | exact LeO.none _
   | refine LeO.ite ?_ ?_
   | refine LeO.bind ?_ (fun _ => ?_)
set_option maxHeartbeats 8000000 in
set_option maxRecDepth 100000 in
theorem impl_LowestBus.calls (k : Nat) (a0_0 : Cx) (a0_1 : Cx) (a0_2 : Cx) (A0_3 : Option Addr) (c0_3 : Nat) (l0_3 : List (S66)) (A1_0 : Option Addr) (c1_0 : Nat) (l1_0 : List (S39)) (A1_1 : Option Addr) (c1_1 : Nat) (l1_1 : List (S39)) (a1_2 : Int) (a1_3 : Bool) (r1 : Int) (r2 : Nat) (r3 : Bool) (w : World) (hr0_3 : Kd.C k66 w A0_3 l0_3.length l0_3) (hc0_3 : l0_3.length ≤ c0_3) (hr1_0 : Kd.C k39 w A1_0 l1_0.length l1_0) (hc1_0 : l1_0.length ≤ c1_0) (hr1_1 : Kd.C k39 w A1_1 l1_1.length l1_1) (hc1_1 : l1_1.length ≤ c1_1) (h : impl_LowestBus.f k a0_0 a0_1 a0_2 l0_3 l1_0 l1_1 a1_2 a1_3 = some (r1, r2, r3)) :
  Calls Try.prog 37 #[.agg #[.complex .f32 a0_0.re a0_0.im, .complex .f32 a0_1.re a0_1.im, .complex .f32 a0_2.re a0_2.im, .slice A0_3 l0_3.length c0_3], .agg #[.slice A1_0 l1_0.length c1_0, .slice A1_1 l1_1.length c1_1, .int .i64 a1_2, .bool a1_3]] w fun e w' => e = .returned (.tuple #[.int .i64 r1, .float .f32 r2, .bool r3]) ∧ Below w.heap.size w w' := by
 have hu42 := Try.underlying42
 have hu51 := Try.underlying51
 have HR0_3 := Aside0.mk hr0_3
 have HC0_3 := Aside0.mk hc0_3
 clear hr0_3 hc0_3
 have HR1_0 := Aside0.mk hr1_0
 have HC1_0 := Aside0.mk hc1_0
 clear hr1_0 hc1_0
 have HR1_1 := Aside0.mk hr1_1
 have HC1_1 := Aside0.mk hc1_1
 clear hr1_1 hc1_1
 have HB := Aside0.mk (Below.refl w.heap.size w)
 have H : ((impl_IsFlow.f k a0_0 a0_1 a0_2 l0_3 l1_0 l1_1 a1_2 a1_3).bind fun t495 => (if t495 = true then ((impl_lowest.f k l1_0).bind fun bt496 => (some (bt496.1, bt496.2.1, bt496.2.2))) else (some (0, 0, false)))) = some (r1, r2, r3) := h
 clear h
 replace H := Option.bind_eq_some_iff.mp H
 obtain ⟨t495, A30, H⟩ := H
 try dsimp only at H
 have A3 := Aside0.mk A30
 clear A30
 by_cases c4 : t495 = true
 ·subst c4
  rw [if_pos rfl] at H; try dsimp only at H
  replace H := Option.bind_eq_some_iff.mp H
  obtain ⟨⟨t496, t497, t498⟩, A50, H⟩ := H
  try dsimp only at H
  have A5 := Aside0.mk A50
  clear A50
  simp only [Option.some.injEq, Prod.mk.injEq] at H
  obtain ⟨rfl, rfl, rfl⟩ := H
  go_enter Try.func37, Try.ntmps37
  go_wp2_with (first | ((with_reducible refine gate_dst (N := 2) rfl ?_); refine box_event ?hg (N := 2) ?hd (cs := #[.complex .f32 a0_0.re a0_0.im, .complex .f32 a0_1.re a0_1.im, .complex .f32 a0_2.re a0_2.im, .slice A0_3 l0_3.length c0_3]) (t := 42) ?hr ?_; (case hd => rfl); (case hg => rfl); (case hr => first | (go_simp; done) | (go_simp; rfl)); intro gb493 hg w6 hbox hb; have n0_ := Aside0.mk (below_step tb hb); have n1_ := Aside0.mk (hbox); have n2_ := Aside0.mk ((by rw [hg]; exact (below_size tb) : w.heap.size ≤ gb493)); have n3_ := Aside0.mk ((by rw [hg]; exact (below_size tb) : w.heap.size ≤ gb493)); clear HB; have HB := n0_; have BK493 := n1_; have GW493 := n2_; have GE493 := n3_; clear n0_ n1_ n2_ n3_; clear hb hbox hg) | ((with_reducible refine gate_dst (N := 3) rfl ?_); refine box_event ?hg (N := 3) ?hd (cs := #[.slice A1_0 l1_0.length c1_0, .slice A1_1 l1_1.length c1_1, .int .i64 a1_2, .bool a1_3]) (t := 51) ?hr ?_; (case hd => rfl); (case hg => rfl); (case hr => first | (go_simp; done) | (go_simp; rfl)); intro gb494 hg w7 hbox hb; have n0_ := Aside0.mk (blk_below (g := gb493) (o := .cells #[.complex .f32 a0_0.re a0_0.im, .complex .f32 a0_1.re a0_1.im, .complex .f32 a0_2.re a0_2.im, .slice A0_3 l0_3.length c0_3] 42 (0, 0)) (bu BK493.out) hb); have n1_ := Aside0.mk (below_step tb hb); have n2_ := Aside0.mk (hbox); have n3_ := Aside0.mk ((by rw [hg]; exact (below_size tb) : w.heap.size ≤ gb494)); have n4_ := Aside0.mk ((by rw [hg]; exact (below_size tb) : w.heap.size ≤ gb494)); have n5_ := Aside0.mk ((by rw [hg]; exact Nat.ne_of_lt (blk_lt (g := gb493) (o := .cells #[.complex .f32 a0_0.re a0_0.im, .complex .f32 a0_1.re a0_1.im, .complex .f32 a0_2.re a0_2.im, .slice A0_3 l0_3.length c0_3] 42 (0, 0)) (bu BK493.out)) : gb493 ≠ gb494)); have n6_ := Aside0.mk ((by rw [hg]; exact Nat.ne_of_gt (blk_lt (g := gb493) (o := .cells #[.complex .f32 a0_0.re a0_0.im, .complex .f32 a0_1.re a0_1.im, .complex .f32 a0_2.re a0_2.im, .slice A0_3 l0_3.length c0_3] 42 (0, 0)) (bu BK493.out)) : gb494 ≠ gb493)); clear BK493; clear HB; have BK493 := n0_; have HB := n1_; have BK494 := n2_; have GW494 := n3_; have GE494 := n4_; have NB493_494 := n5_; have NB494_493 := n6_; clear n0_ n1_ n2_ n3_ n4_ n5_ n6_; clear hb hbox hg; have hnb8 := NB493_494.out; have hnc8 := NB494_493.out; have hcz9_0 : w7.cell? ⟨gb493, 0, none⟩ = some (.complex .f32 a0_0.re a0_0.im) := (blk_cell BK493.out 0).trans rfl; have hcz9_1 : w7.cell? ⟨gb493, 1, none⟩ = some (.complex .f32 a0_1.re a0_1.im) := (blk_cell BK493.out 1).trans rfl; have hcz9_2 : w7.cell? ⟨gb493, 2, none⟩ = some (.complex .f32 a0_2.re a0_2.im) := (blk_cell BK493.out 2).trans rfl; have hcz9_3 : w7.cell? ⟨gb493, 3, none⟩ = some (.slice A0_3 l0_3.length c0_3) := (blk_cell BK493.out 3).trans rfl; have hfz9_0 := blk_frozen BK493.out 0; have hfz9_1 := blk_frozen BK493.out 1; have hfz9_2 := blk_frozen BK493.out 2; have hfz9_3 := blk_frozen BK493.out 3; have hcz10_0 : w7.cell? ⟨gb494, 0, none⟩ = some (.slice A1_0 l1_0.length c1_0) := (blk_cell BK494.out 0).trans rfl; have hcz10_1 : w7.cell? ⟨gb494, 1, none⟩ = some (.slice A1_1 l1_1.length c1_1) := (blk_cell BK494.out 1).trans rfl; have hcz10_2 : w7.cell? ⟨gb494, 2, none⟩ = some (.int .i64 a1_2) := (blk_cell BK494.out 2).trans rfl; have hcz10_3 : w7.cell? ⟨gb494, 3, none⟩ = some (.bool a1_3) := (blk_cell BK494.out 3).trans rfl; have hfz10_0 := blk_frozen BK494.out 0; have hfz10_1 := blk_frozen BK494.out 1; have hfz10_2 := blk_frozen BK494.out 2; have hfz10_3 := blk_frozen BK494.out 3) | ((with_reducible refine gate_callee (f := 98) rfl ?_); refine gx_ (some 9) Try.func98 #[.agg #[.complex .f32 a0_0.re a0_0.im, .complex .f32 a0_1.re a0_1.im, .complex .f32 a0_2.re a0_2.im, .slice A0_3 l0_3.length c0_3], .agg #[.slice A1_0 l1_0.length c1_0, .slice A1_1 l1_1.length c1_1, .int .i64 a1_2, .bool a1_3]] ?_; (with_reducible refine (impl_IsFlow.calls k a0_0 a0_1 a0_2 _ _ l0_3 _ _ l1_0 _ _ l1_1 a1_2 a1_3 true _ ?side1 ?side2 ?side3 ?side4 ?side5 ?side6 A3.out).mono ?_); (case side1 => exact cu ((Kd.C_below HR0_3.out HB.out))); (case side2 => exact HC0_3.out); (case side3 => exact cu ((Kd.C_below HR1_0.out HB.out))); (case side4 => exact HC1_0.out); (case side5 => exact cu ((Kd.C_below HR1_1.out HB.out))); (case side6 => exact HC1_1.out); rintro e w11 ⟨rfl, hb⟩; refine ⟨_, rfl, ?_⟩; have n0_ := Aside0.mk (blk_below (g := gb493) (o := .cells #[.complex .f32 a0_0.re a0_0.im, .complex .f32 a0_1.re a0_1.im, .complex .f32 a0_2.re a0_2.im, .slice A0_3 l0_3.length c0_3] 42 (0, 0)) (bu BK493.out) hb); have n1_ := Aside0.mk (blk_below (g := gb494) (o := .cells #[.slice A1_0 l1_0.length c1_0, .slice A1_1 l1_1.length c1_1, .int .i64 a1_2, .bool a1_3] 51 (0, 0)) (bu BK494.out) hb); have n2_ := Aside0.mk (below_step tb hb); clear BK493; clear BK494; clear HB; have BK493 := n0_; have BK494 := n1_; have HB := n2_; clear n0_ n1_ n2_; (try clear hb); (try clear hb2); (try clear hk); (try clear hi); have hcz12_0 : w11.cell? ⟨gb494, 0, none⟩ = some (.slice A1_0 l1_0.length c1_0) := (blk_cell BK494.out 0).trans rfl; have hcz12_1 : w11.cell? ⟨gb494, 1, none⟩ = some (.slice A1_1 l1_1.length c1_1) := (blk_cell BK494.out 1).trans rfl; have hcz12_2 : w11.cell? ⟨gb494, 2, none⟩ = some (.int .i64 a1_2) := (blk_cell BK494.out 2).trans rfl; have hcz12_3 : w11.cell? ⟨gb494, 3, none⟩ = some (.bool a1_3) := (blk_cell BK494.out 3).trans rfl; have hfz12_0 := blk_frozen BK494.out 0; have hfz12_1 := blk_frozen BK494.out 1; have hfz12_2 := blk_frozen BK494.out 2; have hfz12_3 := blk_frozen BK494.out 3) | ((with_reducible refine gate_callee (f := 91) rfl ?_); refine gx_ (some 13) Try.func91 #[.slice A1_0 l1_0.length c1_0] ?_; (with_reducible refine (impl_lowest.calls k _ _ l1_0 t496 t497 t498 _ ?side1 ?side2 A5.out).mono ?_); (case side1 => exact cu ((Kd.C_below HR1_0.out HB.out))); (case side2 => exact HC1_0.out); rintro e w13 ⟨rfl, hb⟩; refine ⟨_, rfl, ?_⟩; have n0_ := Aside0.mk (blk_below (g := gb493) (o := .cells #[.complex .f32 a0_0.re a0_0.im, .complex .f32 a0_1.re a0_1.im, .complex .f32 a0_2.re a0_2.im, .slice A0_3 l0_3.length c0_3] 42 (0, 0)) (bu BK493.out) hb); have n1_ := Aside0.mk (blk_below (g := gb494) (o := .cells #[.slice A1_0 l1_0.length c1_0, .slice A1_1 l1_1.length c1_1, .int .i64 a1_2, .bool a1_3] 51 (0, 0)) (bu BK494.out) hb); have n2_ := Aside0.mk (below_step tb hb); clear BK493; clear BK494; clear HB; have BK493 := n0_; have BK494 := n1_; have HB := n2_; clear n0_ n1_ n2_; (try clear hb); (try clear hb2); (try clear hk); (try clear hi)))
  go_ret3
  exact ⟨re_, tb⟩
 ·replace c4 := Bool.eq_false_iff.mpr c4
  subst c4
  have H1 : (some (0, 0, false)) = some (r1, r2, r3) := by rw [if_neg (show ¬ (false = true) by decide)] at H; exact H
  clear H
  have H := H1
  clear H1
  simp only [Option.some.injEq, Prod.mk.injEq] at H
  obtain ⟨rfl, rfl, rfl⟩ := H
  go_enter Try.func37, Try.ntmps37
  go_wp2_with (first | ((with_reducible refine gate_dst (N := 2) rfl ?_); refine box_event ?hg (N := 2) ?hd (cs := #[.complex .f32 a0_0.re a0_0.im, .complex .f32 a0_1.re a0_1.im, .complex .f32 a0_2.re a0_2.im, .slice A0_3 l0_3.length c0_3]) (t := 42) ?hr ?_; (case hd => rfl); (case hg => rfl); (case hr => first | (go_simp; done) | (go_simp; rfl)); intro gb493 hg w14 hbox hb; have n0_ := Aside0.mk (below_step tb hb); have n1_ := Aside0.mk (hbox); have n2_ := Aside0.mk ((by rw [hg]; exact (below_size tb) : w.heap.size ≤ gb493)); have n3_ := Aside0.mk ((by rw [hg]; exact (below_size tb) : w.heap.size ≤ gb493)); clear HB; have HB := n0_; have BK493 := n1_; have GW493 := n2_; have GE493 := n3_; clear n0_ n1_ n2_ n3_; clear hb hbox hg) | ((with_reducible refine gate_dst (N := 3) rfl ?_); refine box_event ?hg (N := 3) ?hd (cs := #[.slice A1_0 l1_0.length c1_0, .slice A1_1 l1_1.length c1_1, .int .i64 a1_2, .bool a1_3]) (t := 51) ?hr ?_; (case hd => rfl); (case hg => rfl); (case hr => first | (go_simp; done) | (go_simp; rfl)); intro gb494 hg w15 hbox hb; have n0_ := Aside0.mk (blk_below (g := gb493) (o := .cells #[.complex .f32 a0_0.re a0_0.im, .complex .f32 a0_1.re a0_1.im, .complex .f32 a0_2.re a0_2.im, .slice A0_3 l0_3.length c0_3] 42 (0, 0)) (bu BK493.out) hb); have n1_ := Aside0.mk (below_step tb hb); have n2_ := Aside0.mk (hbox); have n3_ := Aside0.mk ((by rw [hg]; exact (below_size tb) : w.heap.size ≤ gb494)); have n4_ := Aside0.mk ((by rw [hg]; exact (below_size tb) : w.heap.size ≤ gb494)); have n5_ := Aside0.mk ((by rw [hg]; exact Nat.ne_of_lt (blk_lt (g := gb493) (o := .cells #[.complex .f32 a0_0.re a0_0.im, .complex .f32 a0_1.re a0_1.im, .complex .f32 a0_2.re a0_2.im, .slice A0_3 l0_3.length c0_3] 42 (0, 0)) (bu BK493.out)) : gb493 ≠ gb494)); have n6_ := Aside0.mk ((by rw [hg]; exact Nat.ne_of_gt (blk_lt (g := gb493) (o := .cells #[.complex .f32 a0_0.re a0_0.im, .complex .f32 a0_1.re a0_1.im, .complex .f32 a0_2.re a0_2.im, .slice A0_3 l0_3.length c0_3] 42 (0, 0)) (bu BK493.out)) : gb494 ≠ gb493)); clear BK493; clear HB; have BK493 := n0_; have HB := n1_; have BK494 := n2_; have GW494 := n3_; have GE494 := n4_; have NB493_494 := n5_; have NB494_493 := n6_; clear n0_ n1_ n2_ n3_ n4_ n5_ n6_; clear hb hbox hg; have hnb16 := NB493_494.out; have hnc16 := NB494_493.out; have hcz17_0 : w15.cell? ⟨gb493, 0, none⟩ = some (.complex .f32 a0_0.re a0_0.im) := (blk_cell BK493.out 0).trans rfl; have hcz17_1 : w15.cell? ⟨gb493, 1, none⟩ = some (.complex .f32 a0_1.re a0_1.im) := (blk_cell BK493.out 1).trans rfl; have hcz17_2 : w15.cell? ⟨gb493, 2, none⟩ = some (.complex .f32 a0_2.re a0_2.im) := (blk_cell BK493.out 2).trans rfl; have hcz17_3 : w15.cell? ⟨gb493, 3, none⟩ = some (.slice A0_3 l0_3.length c0_3) := (blk_cell BK493.out 3).trans rfl; have hfz17_0 := blk_frozen BK493.out 0; have hfz17_1 := blk_frozen BK493.out 1; have hfz17_2 := blk_frozen BK493.out 2; have hfz17_3 := blk_frozen BK493.out 3; have hcz18_0 : w15.cell? ⟨gb494, 0, none⟩ = some (.slice A1_0 l1_0.length c1_0) := (blk_cell BK494.out 0).trans rfl; have hcz18_1 : w15.cell? ⟨gb494, 1, none⟩ = some (.slice A1_1 l1_1.length c1_1) := (blk_cell BK494.out 1).trans rfl; have hcz18_2 : w15.cell? ⟨gb494, 2, none⟩ = some (.int .i64 a1_2) := (blk_cell BK494.out 2).trans rfl; have hcz18_3 : w15.cell? ⟨gb494, 3, none⟩ = some (.bool a1_3) := (blk_cell BK494.out 3).trans rfl; have hfz18_0 := blk_frozen BK494.out 0; have hfz18_1 := blk_frozen BK494.out 1; have hfz18_2 := blk_frozen BK494.out 2; have hfz18_3 := blk_frozen BK494.out 3) | ((with_reducible refine gate_callee (f := 98) rfl ?_); refine gx_ (some 9) Try.func98 #[.agg #[.complex .f32 a0_0.re a0_0.im, .complex .f32 a0_1.re a0_1.im, .complex .f32 a0_2.re a0_2.im, .slice A0_3 l0_3.length c0_3], .agg #[.slice A1_0 l1_0.length c1_0, .slice A1_1 l1_1.length c1_1, .int .i64 a1_2, .bool a1_3]] ?_; (with_reducible refine (impl_IsFlow.calls k a0_0 a0_1 a0_2 _ _ l0_3 _ _ l1_0 _ _ l1_1 a1_2 a1_3 false _ ?side1 ?side2 ?side3 ?side4 ?side5 ?side6 A3.out).mono ?_); (case side1 => exact cu ((Kd.C_below HR0_3.out HB.out))); (case side2 => exact HC0_3.out); (case side3 => exact cu ((Kd.C_below HR1_0.out HB.out))); (case side4 => exact HC1_0.out); (case side5 => exact cu ((Kd.C_below HR1_1.out HB.out))); (case side6 => exact HC1_1.out); rintro e w19 ⟨rfl, hb⟩; refine ⟨_, rfl, ?_⟩; have n0_ := Aside0.mk (blk_below (g := gb493) (o := .cells #[.complex .f32 a0_0.re a0_0.im, .complex .f32 a0_1.re a0_1.im, .complex .f32 a0_2.re a0_2.im, .slice A0_3 l0_3.length c0_3] 42 (0, 0)) (bu BK493.out) hb); have n1_ := Aside0.mk (blk_below (g := gb494) (o := .cells #[.slice A1_0 l1_0.length c1_0, .slice A1_1 l1_1.length c1_1, .int .i64 a1_2, .bool a1_3] 51 (0, 0)) (bu BK494.out) hb); have n2_ := Aside0.mk (below_step tb hb); clear BK493; clear BK494; clear HB; have BK493 := n0_; have BK494 := n1_; have HB := n2_; clear n0_ n1_ n2_; (try clear hb); (try clear hb2); (try clear hk); (try clear hi)))
  go_ret3
  exact ⟨re_, tb⟩

end Go.Proofs.Ytcgpomicgbmdlaa.PFnBanks
