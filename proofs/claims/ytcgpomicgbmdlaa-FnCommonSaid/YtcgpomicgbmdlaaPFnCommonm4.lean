-- Words and walks of the print, as far as this claim uses them (laid by wip/mkclaim.py of this session). Lean checks it.
import Derived.Test.YtcgpomicgbmdlaaFl
import Derived.Test.YtcgpomicgbmdlaaPFnCommonm0
import Derived.Test.YtcgpomicgbmdlaaPFnCommonm3
namespace Go.Proofs.Ytcgpomicgbmdlaa.PFnCommon
open Go.RowKit Go.Proofs.YtcgpomicgbmdlaaW.PrintWords Go.Proofs.YtcgpomicgbmdlaaW.PrintLast Go.Proofs.YtcgpomicgbmdlaaW.PrintMore
attribute [local go_sem] max2_int min2_int max_two min_two max_three min_three max_four min_four   -- for this text's walks alone
set_option linter.unusedVariables false
set_option linter.unusedSimpArgs false

/-! ### impl_Feeder_common: function 100 -/
def impl_Feeder_common.l0 : Nat → List Int → List Int → Int → Cx → Cx → Cx → List (S66) → Option (List Int × Cx × Cx × Cx)
 | 0, _, _, _, _, _, _, _ => none
 | k + 1, x7, x8, x9, x1000, x1001, x1002, x1003 => if x9 < (x7.length : Int) then (if x9 < (x8.length : Int) then (if 0 ≤ x9 then (if (rd x7 x9) = (rd x8 x9) then (impl_Feeder_common.l0 k x7 x8 (wrap64 (x9 + 1)) x1000 x1001 x1002 x1003) else (if x9 ≤ (x7.length : Int) then (some ((x7.take (x9 : Int).toNat), x1000, x1001, x1002)) else (none))) else (none)) else (if 0 ≤ x9 then (if x9 ≤ (x7.length : Int) then (some ((x7.take (x9 : Int).toNat), x1000, x1001, x1002)) else (none)) else (none))) else (if 0 ≤ x9 then (if x9 ≤ (x7.length : Int) then (some ((x7.take (x9 : Int).toNat), x1000, x1001, x1002)) else (none)) else (none))
def impl_Feeder_common.f (k : Nat) (s0_0 : Cx) (s0_1 : Cx) (s0_2 : Cx) (s0_3 : List (S66)) (a1 : Int) (a2 : Int) : Option (List Int × Cx × Cx × Cx) := (impl_Feeder_path.f k s0_0 s0_1 s0_2 s0_3 a1).bind fun bt235 => ((impl_Feeder_path.f k bt235.2.1 bt235.2.2.1 bt235.2.2.2 s0_3 a2).bind fun bt241 => (impl_Feeder_common.l0 k bt235.1 bt241.1 0 bt241.2.1 bt241.2.2.1 bt241.2.2.2 s0_3))
theorem impl_Feeder_common.mono_l : ∀ k, (∀ y0 y1 y2 y3 y4 y5 y6, LeO (impl_Feeder_common.l0 k y0 y1 y2 y3 y4 y5 y6) (impl_Feeder_common.l0 (k + 1) y0 y1 y2 y3 y4 y5 y6))
 | 0 => fun _ _ _ _ _ _ _ r h => by simp [impl_Feeder_common.l0] at h
 | k + 1 => by
  have ih0 := impl_Feeder_common.mono_l k
  ·intro y0 y1 y2 y3 y4 y5 y6
   unfold impl_Feeder_common.l0
   repeat' first
   | (with_reducible exact ih0 _ _ _ _ _ _ _)
   | (with_reducible exact impl_Feeder_path.mono _ _ _ _ _ _)
   | (with_reducible exact LeO.refl _)
   | (with_reducible exact LeO.none _)
   | (with_reducible refine LeO.ite ?_ ?_)
   | (with_reducible refine LeO.bind ?_ (fun _ => ?_))
   | exact ih0 _ _ _ _ _ _ _
   | exact impl_Feeder_path.mono _ _ _ _ _ _
   | exact LeO.none _
   | refine LeO.ite ?_ ?_
   | refine LeO.bind ?_ (fun _ => ?_)
theorem impl_Feeder_common.mono : ∀ a0 a1 a2 a3 a4 a5 k, LeO (impl_Feeder_common.f k a0 a1 a2 a3 a4 a5) (impl_Feeder_common.f (k + 1) a0 a1 a2 a3 a4 a5) := by
 intro a0 a1 a2 a3 a4 a5 k
 have ih0 := impl_Feeder_common.mono_l k
 unfold impl_Feeder_common.f
 repeat' first
   | (with_reducible exact ih0 _ _ _ _ _ _ _)
   | (with_reducible exact impl_Feeder_path.mono _ _ _ _ _ _)
   | (with_reducible exact LeO.refl _)
   | (with_reducible exact LeO.none _)
   | (with_reducible refine LeO.ite ?_ ?_)
   | (with_reducible refine LeO.bind ?_ (fun _ => ?_))
   | exact ih0 _ _ _ _ _ _ _
   | exact impl_Feeder_path.mono _ _ _ _ _ _
   | exact LeO.none _
   | refine LeO.ite ?_ ?_
   | refine LeO.bind ?_ (fun _ => ?_)
set_option maxHeartbeats 8000000 in
set_option maxRecDepth 100000 in
theorem impl_Feeder_common.calls (k : Nat) (g : Nat) (s0_0 : Cx) (s0_1 : Cx) (s0_2 : Cx) (s0_3 : List (S66)) (a1 : Int) (a2 : Int) (r1 : List Int) (r2 : Cx) (r3 : Cx) (r4 : Cx) (w0 w : World) (hI : IsS42 w0 w g s0_0 s0_1 s0_2 s0_3) (hB : Below w0.heap.size w0 w) (h : impl_Feeder_common.f k s0_0 s0_1 s0_2 s0_3 a1 a2 = some (r1, r2, r3, r4)) :
  Calls Try.prog 100 #[.pointer (some ⟨g, 0, none⟩), .int .i64 a1, .int .i64 a2] w fun e w' => ∃ v0_ : Value, e = .returned (v0_) ∧ Kd.R (Kd.int .i64) 2 w' w.heap.size (fun _ => True) v0_ r1 ∧ IsS42 w0 w' g r2 r3 r4 s0_3 ∧ Below w0.heap.size w0 w' ∧ KeepBut w w' g none := by
 have HI0 := Aside0.mk hI
 have HK := Aside0.mk (KeepBut.refl w g none)
 have HL := Aside0.mk hB.size
 clear hI
 have HW0 := Aside0.mk hB.size
 have HB := Aside0.mk hB
 clear hB
 have H : ((impl_Feeder_path.f k s0_0 s0_1 s0_2 s0_3 a1).bind fun bt235 => ((impl_Feeder_path.f k bt235.2.1 bt235.2.2.1 bt235.2.2.2 s0_3 a2).bind fun bt241 => (impl_Feeder_common.l0 k bt235.1 bt241.1 0 bt241.2.1 bt241.2.2.1 bt241.2.2.2 s0_3))) = some (r1, r2, r3, r4) := h
 clear h
 replace H := Option.bind_eq_some_iff.mp H
 obtain ⟨⟨t235, t238, t239, t240⟩, A40, H⟩ := H
 try dsimp only at H
 have A4 := Aside0.mk A40
 clear A40
 replace H := Option.bind_eq_some_iff.mp H
 obtain ⟨⟨t241, t244, t245, t246⟩, A50, H⟩ := H
 try dsimp only at H
 have A5 := Aside0.mk A50
 clear A50
 have H' := Aside0.mk H
 clear H
 go_enter Try.func100, Try.ntmps100
 go_wp2_with (first | (go_at_call 101; (with_reducible refine (impl_Feeder_path.calls k g s0_0 s0_1 s0_2 s0_3 a1 t235 t238 t239 t240 w0 _ ?side1 ?side2 A4.out).mono ?_); (case side1 => have hi_ := HI0.out; exact IsS42.up); (case side2 => have ge_ := IsS42.ge HI0.out; exact tb); rintro e w6 ⟨v236, rfl, ho0, hi, hb, hk⟩; have n0_ := Aside0.mk (Kd.R_lower ho0 (keep_size (w := w) (g := g) (row := none) (by repeat (first | (with_reducible first | exact HK.out | apply KeepBut.set_ | apply keep_drewN | apply keep_drew | apply keep_alloc) | exact HK.out)))); have n1_ := Aside0.mk (KeepBut.trans (by repeat (first | (with_reducible first | exact HK.out | apply KeepBut.set_ | apply keep_drewN | apply keep_drew | apply keep_alloc) | exact HK.out)) hk (.inl rfl)); have n2_ := Aside0.mk (hb); have n3_ := Aside0.mk (hi); clear HK; clear HB; clear HI0; have HO237 := n0_; have HK := n1_; have HB := n2_; have HI0 := n3_; clear n0_ n1_ n2_ n3_; (try clear hb); (try clear hb2); (try clear hk); (try clear hi); (try clear ho0)) | (go_at_call 101; (with_reducible refine (impl_Feeder_path.calls k g t238 t239 t240 s0_3 a2 t241 t244 t245 t246 w0 _ ?side1 ?side2 A5.out).mono ?_); (case side1 => have hi_ := HI0.out; exact IsS42.up); (case side2 => have ge_ := IsS42.ge HI0.out; exact tb); rintro e w7 ⟨v242, rfl, ho0, hi, hb, hk⟩; have n0_ := Aside0.mk (Kd.R_mono (Kd.R_told (Kd.R_oldK (IsS42.apart (show IsS42 w0 _ g t238 t239 t240 s0_3 from by have hi_ := HI0.out; exact IsS42.up) (ru HO237.out) (by decide)) hk) (Kd.R_base ho0)) (fun _ h_ => h_.1)); have n1_ := Aside0.mk (Kd.R_lower (Kd.R_new' ho0 (Kd.R_lt (ru HO237.out))) (keep_size (w := w) (g := g) (row := none) (by repeat (first | (with_reducible first | exact HK.out | apply KeepBut.set_ | apply keep_drewN | apply keep_drew | apply keep_alloc) | exact HK.out)))); have n2_ := Aside0.mk (KeepBut.trans (by repeat (first | (with_reducible first | exact HK.out | apply KeepBut.set_ | apply keep_drewN | apply keep_drew | apply keep_alloc) | exact HK.out)) hk (.inl rfl)); have n3_ := Aside0.mk (hb); have n4_ := Aside0.mk (hi); clear HO237; clear HK; clear HB; clear HI0; have HO237 := n0_; have HO243 := n1_; have HK := n2_; have HB := n3_; have HI0 := n4_; clear n0_ n1_ n2_ n3_ n4_; (try clear hb); (try clear hb2); (try clear hk); (try clear hi); (try clear ho0)))
 repeat (go_quiet (first | (go_at_call 101; (with_reducible refine (impl_Feeder_path.calls k g s0_0 s0_1 s0_2 s0_3 a1 t235 t238 t239 t240 w0 _ ?side1 ?side2 A4.out).mono ?_); (case side1 => have hi_ := HI0.out; exact IsS42.up); (case side2 => have ge_ := IsS42.ge HI0.out; exact tb); rintro e w6 ⟨v236, rfl, ho0, hi, hb, hk⟩; have n0_ := Aside0.mk (Kd.R_lower ho0 (keep_size (w := w) (g := g) (row := none) (by repeat (first | (with_reducible first | exact HK.out | apply KeepBut.set_ | apply keep_drewN | apply keep_drew | apply keep_alloc) | exact HK.out)))); have n1_ := Aside0.mk (KeepBut.trans (by repeat (first | (with_reducible first | exact HK.out | apply KeepBut.set_ | apply keep_drewN | apply keep_drew | apply keep_alloc) | exact HK.out)) hk (.inl rfl)); have n2_ := Aside0.mk (hb); have n3_ := Aside0.mk (hi); clear HK; clear HB; clear HI0; have HO237 := n0_; have HK := n1_; have HB := n2_; have HI0 := n3_; clear n0_ n1_ n2_ n3_; (try clear hb); (try clear hb2); (try clear hk); (try clear hi); (try clear ho0)) | (go_at_call 101; (with_reducible refine (impl_Feeder_path.calls k g t238 t239 t240 s0_3 a2 t241 t244 t245 t246 w0 _ ?side1 ?side2 A5.out).mono ?_); (case side1 => have hi_ := HI0.out; exact IsS42.up); (case side2 => have ge_ := IsS42.ge HI0.out; exact tb); rintro e w7 ⟨v242, rfl, ho0, hi, hb, hk⟩; have n0_ := Aside0.mk (Kd.R_mono (Kd.R_told (Kd.R_oldK (IsS42.apart (show IsS42 w0 _ g t238 t239 t240 s0_3 from by have hi_ := HI0.out; exact IsS42.up) (ru HO237.out) (by decide)) hk) (Kd.R_base ho0)) (fun _ h_ => h_.1)); have n1_ := Aside0.mk (Kd.R_lower (Kd.R_new' ho0 (Kd.R_lt (ru HO237.out))) (keep_size (w := w) (g := g) (row := none) (by repeat (first | (with_reducible first | exact HK.out | apply KeepBut.set_ | apply keep_drewN | apply keep_drew | apply keep_alloc) | exact HK.out)))); have n2_ := Aside0.mk (KeepBut.trans (by repeat (first | (with_reducible first | exact HK.out | apply KeepBut.set_ | apply keep_drewN | apply keep_drew | apply keep_alloc) | exact HK.out)) hk (.inl rfl)); have n3_ := Aside0.mk (hb); have n4_ := Aside0.mk (hi); clear HO237; clear HK; clear HB; clear HI0; have HO237 := n0_; have HO243 := n1_; have HK := n2_; have HB := n3_; have HI0 := n4_; clear n0_ n1_ n2_ n3_ n4_; (try clear hb); (try clear hb2); (try clear hk); (try clear hi); (try clear ho0))); try go_wp2_with (first | (go_at_call 101; (with_reducible refine (impl_Feeder_path.calls k g s0_0 s0_1 s0_2 s0_3 a1 t235 t238 t239 t240 w0 _ ?side1 ?side2 A4.out).mono ?_); (case side1 => have hi_ := HI0.out; exact IsS42.up); (case side2 => have ge_ := IsS42.ge HI0.out; exact tb); rintro e w6 ⟨v236, rfl, ho0, hi, hb, hk⟩; have n0_ := Aside0.mk (Kd.R_lower ho0 (keep_size (w := w) (g := g) (row := none) (by repeat (first | (with_reducible first | exact HK.out | apply KeepBut.set_ | apply keep_drewN | apply keep_drew | apply keep_alloc) | exact HK.out)))); have n1_ := Aside0.mk (KeepBut.trans (by repeat (first | (with_reducible first | exact HK.out | apply KeepBut.set_ | apply keep_drewN | apply keep_drew | apply keep_alloc) | exact HK.out)) hk (.inl rfl)); have n2_ := Aside0.mk (hb); have n3_ := Aside0.mk (hi); clear HK; clear HB; clear HI0; have HO237 := n0_; have HK := n1_; have HB := n2_; have HI0 := n3_; clear n0_ n1_ n2_ n3_; (try clear hb); (try clear hb2); (try clear hk); (try clear hi); (try clear ho0)) | (go_at_call 101; (with_reducible refine (impl_Feeder_path.calls k g t238 t239 t240 s0_3 a2 t241 t244 t245 t246 w0 _ ?side1 ?side2 A5.out).mono ?_); (case side1 => have hi_ := HI0.out; exact IsS42.up); (case side2 => have ge_ := IsS42.ge HI0.out; exact tb); rintro e w7 ⟨v242, rfl, ho0, hi, hb, hk⟩; have n0_ := Aside0.mk (Kd.R_mono (Kd.R_told (Kd.R_oldK (IsS42.apart (show IsS42 w0 _ g t238 t239 t240 s0_3 from by have hi_ := HI0.out; exact IsS42.up) (ru HO237.out) (by decide)) hk) (Kd.R_base ho0)) (fun _ h_ => h_.1)); have n1_ := Aside0.mk (Kd.R_lower (Kd.R_new' ho0 (Kd.R_lt (ru HO237.out))) (keep_size (w := w) (g := g) (row := none) (by repeat (first | (with_reducible first | exact HK.out | apply KeepBut.set_ | apply keep_drewN | apply keep_drew | apply keep_alloc) | exact HK.out)))); have n2_ := Aside0.mk (KeepBut.trans (by repeat (first | (with_reducible first | exact HK.out | apply KeepBut.set_ | apply keep_drewN | apply keep_drew | apply keep_alloc) | exact HK.out)) hk (.inl rfl)); have n3_ := Aside0.mk (hb); have n4_ := Aside0.mk (hi); clear HO237; clear HK; clear HB; clear HI0; have HO237 := n0_; have HO243 := n1_; have HK := n2_; have HB := n3_; have HI0 := n4_; clear n0_ n1_ n2_ n3_ n4_; (try clear hb); (try clear hb2); (try clear hk); (try clear hi); (try clear ho0))))
 go_loopg [9] k (fun kq v9 w' => ∃ (x9_1 : Int), v9 = .int .i64 x9_1 ∧ Aside0 (impl_Feeder_common.l0 kq t235 t241 x9_1 t244 t245 t246 s0_3 = some (r1, r2, r3, r4)) ∧ Aside0 (kq ≤ k) ∧ Aside0 (Kd.R (Kd.int .i64) 2 w' w.heap.size (fun k_ => some k_ ≠ (v242 : Value).ownBlock) v236 t235) ∧ Aside0 (Kd.R (Kd.int .i64) 2 w' w.heap.size (fun k_ => some k_ ≠ (v236 : Value).ownBlock) v242 t241) ∧ Aside0 (IsS42 w0 w' g t244 t245 t246 s0_3) ∧ Aside0 (KeepBut w w' g none) ∧ Aside0 (Below w0.heap.size w0 w'))
 case atStart => exact ⟨(0), rs_, H', ⟨Nat.le_refl _⟩, ⟨by refine ru ?_; exact Kd.R_mono HO237.out (fun _ hk => hk.2)⟩, ⟨by refine ru ?_; exact Kd.R_mono HO243.out (fun _ hk => hk.2)⟩, ⟨by have hi_ := HI0.out; exact IsS42.up⟩, ⟨by repeat (first | (with_reducible first | exact HK.out | apply KeepBut.set_ | apply keep_drewN | apply keep_drew | apply keep_alloc) | exact HK.out)⟩, ⟨by have ge_ := IsS42.ge HI0.out; exact tb⟩⟩
 case round =>
  clear H'
  try clear c1
  try clear p2
  obtain ⟨x9_1, rfl, HA, HK1, HO_7, HO_8, HI0, HK, HB⟩ := hrel
  cases gk with
  | zero => exact absurd HA.out (by simp [impl_Feeder_common.l0])
  | succ k1 =>
   have H := HA.out
   clear HA
   simp only [impl_Feeder_common.l0] at H
   by_cases c8 : x9_1 < (t235.length : Int)
   ·rw [if_pos c8] at H
    have c8b0 : decide (x9_1 < (t235.length : Int)) = true := decide_eq_true c8
    clear c8
    by_cases c9 : x9_1 < (t241.length : Int)
    ·rw [if_pos c9] at H
     have c9b0 : decide (x9_1 < (t241.length : Int)) = true := decide_eq_true c9
     clear c9
     by_cases c10 : 0 ≤ x9_1
     ·rw [if_pos c10] at H
      have c10b0 : decide (0 ≤ x9_1) = true := decide_eq_true c10
      clear c10
      by_cases c11 : (rd t235 x9_1) = (rd t241 x9_1)
      ·rw [if_pos c11] at H
       have c11b0 : ((rd t235 x9_1) == (rd t241 x9_1)) = true := beq_iff_eq.mpr c11
       have c11b1 : ((rd t235 x9_1) != (rd t241 x9_1)) = false := bne_eq_false_iff_eq.mpr c11
       clear c11
       have H' := Aside0.mk H
       clear H
       obtain ⟨Ao12, co12, eo12⟩ := Kd.R_slice HO_7.out
       subst eo12
       obtain ⟨Ao13, co13, eo13⟩ := Kd.R_slice HO_8.out
       subst eo13
       have p247 : 0 ≤ (x9_1 : Int) := of_decide_eq_true (by first | (with_reducible assumption) | assumption)
       have q247 : x9_1 < (t235.length : Int) := of_decide_eq_true (by first | (with_reducible assumption) | assumption)
       obtain ⟨ad247, e247, hx247_0⟩ := Kd.at_int (Kd.R_reads' HO_7.out).2.2 x9_1 p247 q247
       cases e247
       replace p247 := eq_true p247
       replace q247 := eq_true q247
       have p248 : 0 ≤ (x9_1 : Int) := of_decide_eq_true (by first | (with_reducible assumption) | assumption)
       have q248 : x9_1 < (t241.length : Int) := of_decide_eq_true (by first | (with_reducible assumption) | assumption)
       obtain ⟨ad248, e248, hx248_0⟩ := Kd.at_int (Kd.R_reads' HO_8.out).2.2 x9_1 p248 q248
       cases e248
       replace p248 := eq_true p248
       replace q248 := eq_true q248
       go_wp2
       repeat (go_quiet (fail); try go_wp2)
       go_roundg k1
       case measure => have := HK1.out; omega
       case rel => exact ⟨(wrap64 (x9_1 + 1)), rs_, H', ⟨by have := HK1.out; omega⟩, ⟨by refine ru ?_; exact HO_7.out⟩, ⟨by refine ru ?_; exact HO_8.out⟩, ⟨by have hi_ := HI0.out; exact IsS42.up⟩, ⟨by repeat (first | (with_reducible first | exact HK.out | apply KeepBut.set_ | apply keep_drewN | apply keep_drew | apply keep_alloc) | exact HK.out)⟩, ⟨by have ge_ := IsS42.ge HI0.out; exact tb⟩⟩
      ·rw [if_neg c11] at H
       have c11b0 : ((rd t235 x9_1) == (rd t241 x9_1)) = false := beq_eq_false_iff_ne.mpr c11
       have c11b1 : ((rd t235 x9_1) != (rd t241 x9_1)) = true := bne_iff_ne.mpr c11
       by_cases c14 : x9_1 ≤ (t235.length : Int)
       ·rw [if_pos c14] at H
        have c14b0 := eq_true c14
        have c14b1 : decide (x9_1 ≤ (t235.length : Int)) = true := decide_eq_true c14
        clear c14
        obtain ⟨y249, hy249⟩ : ∃ y_ : List Int, y_ = (t235.take (x9_1 : Int).toNat) := ⟨_, rfl⟩
        replace H : (some (y249, t244, t245, t246)) = some (r1, r2, r3, r4) := by first | (rw [hy249]; with_reducible exact H) | (have H2_ := (Option.bind_some _ _).symm.trans H; rw [hy249]; with_reducible exact H2_) | (have H2_ := (Option.bind_some _ _).symm.trans H; with_reducible exact H2_) | with_reducible exact H | (rw [hy249]; exact H) | exact H
        have Ny249 := Aside0.mk hy249
        clear hy249
        simp only [Option.some.injEq, Prod.mk.injEq] at H
        obtain ⟨rfl, rfl, rfl, rfl⟩ := H
        obtain ⟨Ao15, co15, eo15⟩ := Kd.R_slice HO_7.out
        subst eo15
        obtain ⟨Ao16, co16, eo16⟩ := Kd.R_slice HO_8.out
        subst eo16
        have p247 : 0 ≤ (x9_1 : Int) := of_decide_eq_true (by first | (with_reducible assumption) | assumption)
        have q247 : x9_1 < (t235.length : Int) := of_decide_eq_true (by first | (with_reducible assumption) | assumption)
        obtain ⟨ad247, e247, hx247_0⟩ := Kd.at_int (Kd.R_reads' HO_7.out).2.2 x9_1 p247 q247
        cases e247
        replace p247 := eq_true p247
        replace q247 := eq_true q247
        have p248 : 0 ≤ (x9_1 : Int) := of_decide_eq_true (by first | (with_reducible assumption) | assumption)
        have q248 : x9_1 < (t241.length : Int) := of_decide_eq_true (by first | (with_reducible assumption) | assumption)
        obtain ⟨ad248, e248, hx248_0⟩ := Kd.at_int (Kd.R_reads' HO_8.out).2.2 x9_1 p248 q248
        cases e248
        replace p248 := eq_true p248
        replace q248 := eq_true q248
        have q17 : (x9_1 : Int) ≤ ((t235.length : Int) : Int) := of_decide_eq_true (by first | (with_reducible assumption) | assumption)
        obtain ⟨i017, hi017, _, hsz17, _⟩ := info_parts info2
        have hcut17 := cut_to (P := Try.prog) 72 2 .i64 Try.underlying72 hi017 (some ad247) t235.length co15 x9_1 (of_decide_eq_true (by first | (with_reducible assumption) | assumption)) q17 (Kd.R_reads' HO_7.out).2.1
        have hr17 := Kd.R_take (m := (x9_1 : Int).toNat) HO_7.out (by omega)
        have hy17 : y249.length = (x9_1 : Int).toNat := (by rw [Ny249.out, List.length_take]; omega)
        rw [← Ny249.out] at hr17
        rw [← hy17] at hr17 hcut17
        clear hy17 hi017 hsz17 HO_7
        have HO251 := Aside0.mk hr17
        clear hr17
        replace q17 := eq_true q17
        go_wp2
        repeat (go_quiet (fail); try go_wp2)
        go_ret
        exact ⟨_, re_, by refine ru ?_; exact Kd.R_mono HO251.out (fun _ hk => trivial), by have hi_ := HI0.out; exact IsS42.up, by have ge_ := IsS42.ge HI0.out; exact tb, by repeat (first | (with_reducible first | exact HK.out | apply KeepBut.set_ | apply keep_drewN | apply keep_drew | apply keep_alloc) | exact HK.out)⟩
       ·rw [if_neg c14] at H
        exact absurd H (by simp)
     ·rw [if_neg c10] at H
      exact absurd H (by simp)
    ·rw [if_neg c9] at H
     have c9b0 : decide (x9_1 < (t241.length : Int)) = false := decide_eq_false c9
     clear c9
     by_cases c18 : 0 ≤ x9_1
     ·rw [if_pos c18] at H
      have c18b0 := eq_true c18
      have c18b1 : decide (0 ≤ x9_1) = true := decide_eq_true c18
      clear c18
      by_cases c19 : x9_1 ≤ (t235.length : Int)
      ·rw [if_pos c19] at H
       have c19b0 := eq_true c19
       have c19b1 : decide (x9_1 ≤ (t235.length : Int)) = true := decide_eq_true c19
       clear c19
       obtain ⟨y252, hy252⟩ : ∃ y_ : List Int, y_ = (t235.take (x9_1 : Int).toNat) := ⟨_, rfl⟩
       replace H : (some (y252, t244, t245, t246)) = some (r1, r2, r3, r4) := by first | (rw [hy252]; with_reducible exact H) | (have H2_ := (Option.bind_some _ _).symm.trans H; rw [hy252]; with_reducible exact H2_) | (have H2_ := (Option.bind_some _ _).symm.trans H; with_reducible exact H2_) | with_reducible exact H | (rw [hy252]; exact H) | exact H
       have Ny252 := Aside0.mk hy252
       clear hy252
       simp only [Option.some.injEq, Prod.mk.injEq] at H
       obtain ⟨rfl, rfl, rfl, rfl⟩ := H
       obtain ⟨Ao20, co20, eo20⟩ := Kd.R_slice HO_7.out
       subst eo20
       obtain ⟨Ao21, co21, eo21⟩ := Kd.R_slice HO_8.out
       subst eo21
       have q22 : (x9_1 : Int) ≤ ((t235.length : Int) : Int) := of_decide_eq_true (by first | (with_reducible assumption) | assumption)
       obtain ⟨i022, hi022, _, hsz22, _⟩ := info_parts info2
       have hcut22 := cut_to (P := Try.prog) 72 2 .i64 Try.underlying72 hi022 Ao20 t235.length co20 x9_1 (of_decide_eq_true (by first | (with_reducible assumption) | assumption)) q22 (Kd.R_reads' HO_7.out).2.1
       have hr22 := Kd.R_take (m := (x9_1 : Int).toNat) HO_7.out (by omega)
       have hy22 : y252.length = (x9_1 : Int).toNat := (by rw [Ny252.out, List.length_take]; omega)
       rw [← Ny252.out] at hr22
       rw [← hy22] at hr22 hcut22
       clear hy22 hi022 hsz22 HO_7
       have HO254 := Aside0.mk hr22
       clear hr22
       replace q22 := eq_true q22
       go_wp2
       repeat (go_quiet (fail); try go_wp2)
       go_ret
       exact ⟨_, re_, by refine ru ?_; exact Kd.R_mono HO254.out (fun _ hk => trivial), by have hi_ := HI0.out; exact IsS42.up, by have ge_ := IsS42.ge HI0.out; exact tb, by repeat (first | (with_reducible first | exact HK.out | apply KeepBut.set_ | apply keep_drewN | apply keep_drew | apply keep_alloc) | exact HK.out)⟩
      ·rw [if_neg c19] at H
       exact absurd H (by simp)
     ·rw [if_neg c18] at H
      exact absurd H (by simp)
   ·rw [if_neg c8] at H
    have c8b0 : decide (x9_1 < (t235.length : Int)) = false := decide_eq_false c8
    clear c8
    by_cases c23 : 0 ≤ x9_1
    ·rw [if_pos c23] at H
     have c23b0 := eq_true c23
     have c23b1 : decide (0 ≤ x9_1) = true := decide_eq_true c23
     clear c23
     by_cases c24 : x9_1 ≤ (t235.length : Int)
     ·rw [if_pos c24] at H
      have c24b0 := eq_true c24
      have c24b1 : decide (x9_1 ≤ (t235.length : Int)) = true := decide_eq_true c24
      clear c24
      obtain ⟨y255, hy255⟩ : ∃ y_ : List Int, y_ = (t235.take (x9_1 : Int).toNat) := ⟨_, rfl⟩
      replace H : (some (y255, t244, t245, t246)) = some (r1, r2, r3, r4) := by first | (rw [hy255]; with_reducible exact H) | (have H2_ := (Option.bind_some _ _).symm.trans H; rw [hy255]; with_reducible exact H2_) | (have H2_ := (Option.bind_some _ _).symm.trans H; with_reducible exact H2_) | with_reducible exact H | (rw [hy255]; exact H) | exact H
      have Ny255 := Aside0.mk hy255
      clear hy255
      simp only [Option.some.injEq, Prod.mk.injEq] at H
      obtain ⟨rfl, rfl, rfl, rfl⟩ := H
      obtain ⟨Ao25, co25, eo25⟩ := Kd.R_slice HO_7.out
      subst eo25
      have q26 : (x9_1 : Int) ≤ ((t235.length : Int) : Int) := of_decide_eq_true (by first | (with_reducible assumption) | assumption)
      obtain ⟨i026, hi026, _, hsz26, _⟩ := info_parts info2
      have hcut26 := cut_to (P := Try.prog) 72 2 .i64 Try.underlying72 hi026 Ao25 t235.length co25 x9_1 (of_decide_eq_true (by first | (with_reducible assumption) | assumption)) q26 (Kd.R_reads' HO_7.out).2.1
      have hr26 := Kd.R_take (m := (x9_1 : Int).toNat) HO_7.out (by omega)
      have hy26 : y255.length = (x9_1 : Int).toNat := (by rw [Ny255.out, List.length_take]; omega)
      rw [← Ny255.out] at hr26
      rw [← hy26] at hr26 hcut26
      clear hy26 hi026 hsz26 HO_7
      have HO257 := Aside0.mk hr26
      clear hr26
      replace q26 := eq_true q26
      go_wp2
      repeat (go_quiet (fail); try go_wp2)
      go_ret
      exact ⟨_, re_, by refine ru ?_; exact Kd.R_mono HO257.out (fun _ hk => trivial), by have hi_ := HI0.out; exact IsS42.up, by have ge_ := IsS42.ge HI0.out; exact tb, by repeat (first | (with_reducible first | exact HK.out | apply KeepBut.set_ | apply keep_drewN | apply keep_drew | apply keep_alloc) | exact HK.out)⟩
     ·rw [if_neg c24] at H
      exact absurd H (by simp)
    ·rw [if_neg c23] at H
     exact absurd H (by simp)

end Go.Proofs.Ytcgpomicgbmdlaa.PFnCommon
namespace Go.Proofs.Ytcgpomicgbmdlaa.PFnCommon
open Go.RowKit Go.Proofs.YtcgpomicgbmdlaaW.PrintWords Go.Proofs.YtcgpomicgbmdlaaW.PrintLast Go.Proofs.YtcgpomicgbmdlaaW.PrintMore
attribute [local go_sem] max2_int min2_int max_two min_two max_three min_three max_four min_four   -- for this text's walks alone
set_option linter.unusedVariables false
set_option linter.unusedSimpArgs false

/-! ### impl_CommonPath: function 41 -/
def impl_CommonPath.f (k : Nat) (a0_0 : Cx) (a0_1 : Cx) (a0_2 : Cx) (l0_3 : List (S66)) (a1 : Int) (a2 : Int) : Option (List Int × Bool) := (impl_Feeder_has.f k a0_0 a0_1 a0_2 l0_3 a1).bind fun bt259 => (if bt259.1 = true then ((impl_Feeder_has.f k bt259.2.1 bt259.2.2.1 bt259.2.2.2 l0_3 a2).bind fun bt263 => (if bt263.1 = true then ((impl_Feeder_common.f k bt263.2.1 bt263.2.2.1 bt263.2.2.2 l0_3 a1 a2).bind fun bt267 => (some (bt267.1, true))) else (some (([] : List Int), false)))) else (some (([] : List Int), false)))
theorem impl_CommonPath.mono : ∀ a0 a1 a2 a3 a4 a5 k, LeO (impl_CommonPath.f k a0 a1 a2 a3 a4 a5) (impl_CommonPath.f (k + 1) a0 a1 a2 a3 a4 a5) := by
 intro a0 a1 a2 a3 a4 a5 k
 unfold impl_CommonPath.f
 repeat' first
   | (with_reducible exact impl_Feeder_common.mono _ _ _ _ _ _ _)
   | (with_reducible exact impl_Feeder_has.mono _ _ _ _ _ _)
   | (with_reducible exact LeO.refl _)
   | (with_reducible exact LeO.none _)
   | (with_reducible refine LeO.ite ?_ ?_)
   | (with_reducible refine LeO.bind ?_ (fun _ => ?_))
   | exact impl_Feeder_common.mono _ _ _ _ _ _ _
   | exact impl_Feeder_has.mono _ _ _ _ _ _
   | exact LeO.none _
   | refine LeO.ite ?_ ?_
   | refine LeO.bind ?_ (fun _ => ?_)
set_option maxHeartbeats 8000000 in
set_option maxRecDepth 100000 in
theorem impl_CommonPath.calls (k : Nat) (a0_0 : Cx) (a0_1 : Cx) (a0_2 : Cx) (A0_3 : Option Addr) (c0_3 : Nat) (l0_3 : List (S66)) (a1 : Int) (a2 : Int) (r1 : List Int) (r2 : Bool) (w : World) (hr0_3 : Kd.C k66 w A0_3 l0_3.length l0_3) (hc0_3 : l0_3.length ≤ c0_3) (h : impl_CommonPath.f k a0_0 a0_1 a0_2 l0_3 a1 a2 = some (r1, r2)) :
  Calls Try.prog 41 #[.agg #[.complex .f32 a0_0.re a0_0.im, .complex .f32 a0_1.re a0_1.im, .complex .f32 a0_2.re a0_2.im, .slice A0_3 l0_3.length c0_3], .int .i64 a1, .int .i64 a2] w fun e w' => ∃ v0_ : Value, e = .returned (.tuple #[v0_, .bool r2]) ∧ Kd.R (Kd.int .i64) 2 w' w.heap.size (fun _ => True) v0_ r1 ∧ Below w.heap.size w w' := by
 have hu42 := Try.underlying42
 have HR0_3 := Aside0.mk hr0_3
 have HC0_3 := Aside0.mk hc0_3
 clear hr0_3 hc0_3
 have HB := Aside0.mk (Below.refl w.heap.size w)
 have H : ((impl_Feeder_has.f k a0_0 a0_1 a0_2 l0_3 a1).bind fun bt259 => (if bt259.1 = true then ((impl_Feeder_has.f k bt259.2.1 bt259.2.2.1 bt259.2.2.2 l0_3 a2).bind fun bt263 => (if bt263.1 = true then ((impl_Feeder_common.f k bt263.2.1 bt263.2.2.1 bt263.2.2.2 l0_3 a1 a2).bind fun bt267 => (some (bt267.1, true))) else (some (([] : List Int), false)))) else (some (([] : List Int), false)))) = some (r1, r2) := h
 clear h
 replace H := Option.bind_eq_some_iff.mp H
 obtain ⟨⟨t259, t260, t261, t262⟩, A40, H⟩ := H
 try dsimp only at H
 have A4 := Aside0.mk A40
 clear A40
 by_cases c5 : t259 = true
 ·subst c5
  rw [if_pos rfl] at H; try dsimp only at H
  replace H := Option.bind_eq_some_iff.mp H
  obtain ⟨⟨t263, t264, t265, t266⟩, A60, H⟩ := H
  try dsimp only at H
  have A6 := Aside0.mk A60
  clear A60
  by_cases c7 : t263 = true
  ·subst c7
   rw [if_pos rfl] at H; try dsimp only at H
   replace H := Option.bind_eq_some_iff.mp H
   obtain ⟨⟨t267, t270, t271, t272⟩, A80, H⟩ := H
   try dsimp only at H
   have A8 := Aside0.mk A80
   clear A80
   simp only [Option.some.injEq, Prod.mk.injEq] at H
   obtain ⟨rfl, rfl⟩ := H
   go_enter Try.func41, Try.ntmps41
   go_wp2_with (first | ((with_reducible refine gate_dst (N := 3) rfl ?_); refine box_event ?hg (N := 3) ?hd (cs := #[.complex .f32 a0_0.re a0_0.im, .complex .f32 a0_1.re a0_1.im, .complex .f32 a0_2.re a0_2.im, .slice A0_3 l0_3.length c0_3]) (t := 42) ?hr ?_; (case hd => rfl); (case hg => rfl); (case hr => first | (go_simp; done) | (go_simp; rfl)); intro gb258 hg w9 hbox hb; have n0_ := Aside0.mk (below_step tb hb); have n1_ := Aside0.mk (hbox); have n2_ := Aside0.mk ((by rw [hg]; exact (below_size tb) : w.heap.size ≤ gb258)); have n3_ := Aside0.mk ((by rw [hg]; exact (below_size tb) : w.heap.size ≤ gb258)); clear HB; have HB := n0_; have BK258 := n1_; have GW258 := n2_; have GE258 := n3_; clear n0_ n1_ n2_ n3_; clear hb hbox hg; have HI258 := Aside0.mk (show IsS42 w _ gb258 a0_0 a0_1 a0_2 l0_3 from ⟨_, _, BK258.out, (by first | exact GE258.out | exact GW258.out), HR0_3.out, HC0_3.out⟩)) | ((with_reducible refine gate_callee (f := 90) rfl ?_); refine gx_ (some 9) Try.func90 #[.pointer (some ⟨gb258, 0, none⟩), .int .i64 a1] ?_; (with_reducible refine (impl_Feeder_has.calls k gb258 a0_0 a0_1 a0_2 l0_3 a1 true t260 t261 t262 w _ ?side1 ?side2 A4.out).mono ?_); (case side1 => have hi_ := HI258.out; exact IsS42.up); (case side2 => have ge_ := IsS42.ge HI258.out; exact tb); rintro e w10 ⟨rfl, hi, hb, hk⟩; refine ⟨_, rfl, ?_⟩; have n0_ := Aside0.mk (hb); have n1_ := Aside0.mk (hi); clear HB; clear HI258; have HB := n0_; have HI258 := n1_; clear n0_ n1_; (try clear hb); (try clear hb2); (try clear hk); (try clear hi)) | (go_at_call 90; (with_reducible refine (impl_Feeder_has.calls k gb258 t260 t261 t262 l0_3 a2 true t264 t265 t266 w _ ?side1 ?side2 A6.out).mono ?_); (case side1 => have hi_ := HI258.out; exact IsS42.up); (case side2 => have ge_ := IsS42.ge HI258.out; exact tb); rintro e w11 ⟨rfl, hi, hb, hk⟩; have n0_ := Aside0.mk (hb); have n1_ := Aside0.mk (hi); clear HB; clear HI258; have HB := n0_; have HI258 := n1_; clear n0_ n1_; (try clear hb); (try clear hb2); (try clear hk); (try clear hi)) | ((with_reducible refine gate_callee (f := 100) rfl ?_); refine gx_ (some 18) Try.func100 #[.pointer (some ⟨gb258, 0, none⟩), .int .i64 a1, .int .i64 a2] ?_; (with_reducible refine (impl_Feeder_common.calls k gb258 t264 t265 t266 l0_3 a1 a2 t267 t270 t271 t272 w _ ?side1 ?side2 A8.out).mono ?_); (case side1 => have hi_ := HI258.out; exact IsS42.up); (case side2 => have ge_ := IsS42.ge HI258.out; exact tb); rintro e w12 ⟨v268, rfl, ho0, hi, hb, hk⟩; refine ⟨_, rfl, ?_⟩; have n0_ := Aside0.mk (Kd.R_lower ho0 (below_size (by have ge_ := IsS42.ge HI258.out; exact tb))); have n1_ := Aside0.mk (hb); have n2_ := Aside0.mk (hi); clear HB; clear HI258; have HO269 := n0_; have HB := n1_; have HI258 := n2_; clear n0_ n1_ n2_; (try clear hb); (try clear hb2); (try clear hk); (try clear hi); (try clear ho0)))
   go_ret2
   exact ⟨_, re_, by refine ru ?_; exact HO269.out, by have ge_ := IsS42.ge HI258.out; exact tb⟩
  ·replace c7 := Bool.eq_false_iff.mpr c7
   subst c7
   have H1 : (some (([] : List Int), false)) = some (r1, r2) := by rw [if_neg (show ¬ (false = true) by decide)] at H; exact H
   clear H
   have H := H1
   clear H1
   simp only [Option.some.injEq, Prod.mk.injEq] at H
   obtain ⟨rfl, rfl⟩ := H
   go_enter Try.func41, Try.ntmps41
   go_wp2_with (first | ((with_reducible refine gate_dst (N := 3) rfl ?_); refine box_event ?hg (N := 3) ?hd (cs := #[.complex .f32 a0_0.re a0_0.im, .complex .f32 a0_1.re a0_1.im, .complex .f32 a0_2.re a0_2.im, .slice A0_3 l0_3.length c0_3]) (t := 42) ?hr ?_; (case hd => rfl); (case hg => rfl); (case hr => first | (go_simp; done) | (go_simp; rfl)); intro gb258 hg w13 hbox hb; have n0_ := Aside0.mk (below_step tb hb); have n1_ := Aside0.mk (hbox); have n2_ := Aside0.mk ((by rw [hg]; exact (below_size tb) : w.heap.size ≤ gb258)); have n3_ := Aside0.mk ((by rw [hg]; exact (below_size tb) : w.heap.size ≤ gb258)); clear HB; have HB := n0_; have BK258 := n1_; have GW258 := n2_; have GE258 := n3_; clear n0_ n1_ n2_ n3_; clear hb hbox hg; have HI258 := Aside0.mk (show IsS42 w _ gb258 a0_0 a0_1 a0_2 l0_3 from ⟨_, _, BK258.out, (by first | exact GE258.out | exact GW258.out), HR0_3.out, HC0_3.out⟩)) | ((with_reducible refine gate_callee (f := 90) rfl ?_); refine gx_ (some 9) Try.func90 #[.pointer (some ⟨gb258, 0, none⟩), .int .i64 a1] ?_; (with_reducible refine (impl_Feeder_has.calls k gb258 a0_0 a0_1 a0_2 l0_3 a1 true t260 t261 t262 w _ ?side1 ?side2 A4.out).mono ?_); (case side1 => have hi_ := HI258.out; exact IsS42.up); (case side2 => have ge_ := IsS42.ge HI258.out; exact tb); rintro e w14 ⟨rfl, hi, hb, hk⟩; refine ⟨_, rfl, ?_⟩; have n0_ := Aside0.mk (hb); have n1_ := Aside0.mk (hi); clear HB; clear HI258; have HB := n0_; have HI258 := n1_; clear n0_ n1_; (try clear hb); (try clear hb2); (try clear hk); (try clear hi)) | (go_at_call 90; (with_reducible refine (impl_Feeder_has.calls k gb258 t260 t261 t262 l0_3 a2 false t264 t265 t266 w _ ?side1 ?side2 A6.out).mono ?_); (case side1 => have hi_ := HI258.out; exact IsS42.up); (case side2 => have ge_ := IsS42.ge HI258.out; exact tb); rintro e w15 ⟨rfl, hi, hb, hk⟩; have n0_ := Aside0.mk (hb); have n1_ := Aside0.mk (hi); clear HB; clear HI258; have HB := n0_; have HI258 := n1_; clear n0_ n1_; (try clear hb); (try clear hb2); (try clear hk); (try clear hi)))
   go_ret2
   exact ⟨_, re_, by first | exact Kd.R_nil _ _ _ _ _ | exact Kd.N_nil _ _ _ _ _ | exact Kd.V_nil _ _ _ _ _ | exact Kd.Q_nil _ _ _ _ _ | exact Kd.S_nil _ _ _ _ _, by have ge_ := IsS42.ge HI258.out; exact tb⟩
 ·replace c5 := Bool.eq_false_iff.mpr c5
  subst c5
  have H1 : (some (([] : List Int), false)) = some (r1, r2) := by rw [if_neg (show ¬ (false = true) by decide)] at H; exact H
  clear H
  have H := H1
  clear H1
  simp only [Option.some.injEq, Prod.mk.injEq] at H
  obtain ⟨rfl, rfl⟩ := H
  go_enter Try.func41, Try.ntmps41
  go_wp2_with (first | ((with_reducible refine gate_dst (N := 3) rfl ?_); refine box_event ?hg (N := 3) ?hd (cs := #[.complex .f32 a0_0.re a0_0.im, .complex .f32 a0_1.re a0_1.im, .complex .f32 a0_2.re a0_2.im, .slice A0_3 l0_3.length c0_3]) (t := 42) ?hr ?_; (case hd => rfl); (case hg => rfl); (case hr => first | (go_simp; done) | (go_simp; rfl)); intro gb258 hg w16 hbox hb; have n0_ := Aside0.mk (below_step tb hb); have n1_ := Aside0.mk (hbox); have n2_ := Aside0.mk ((by rw [hg]; exact (below_size tb) : w.heap.size ≤ gb258)); have n3_ := Aside0.mk ((by rw [hg]; exact (below_size tb) : w.heap.size ≤ gb258)); clear HB; have HB := n0_; have BK258 := n1_; have GW258 := n2_; have GE258 := n3_; clear n0_ n1_ n2_ n3_; clear hb hbox hg; have HI258 := Aside0.mk (show IsS42 w _ gb258 a0_0 a0_1 a0_2 l0_3 from ⟨_, _, BK258.out, (by first | exact GE258.out | exact GW258.out), HR0_3.out, HC0_3.out⟩)) | ((with_reducible refine gate_callee (f := 90) rfl ?_); refine gx_ (some 9) Try.func90 #[.pointer (some ⟨gb258, 0, none⟩), .int .i64 a1] ?_; (with_reducible refine (impl_Feeder_has.calls k gb258 a0_0 a0_1 a0_2 l0_3 a1 false t260 t261 t262 w _ ?side1 ?side2 A4.out).mono ?_); (case side1 => have hi_ := HI258.out; exact IsS42.up); (case side2 => have ge_ := IsS42.ge HI258.out; exact tb); rintro e w17 ⟨rfl, hi, hb, hk⟩; refine ⟨_, rfl, ?_⟩; have n0_ := Aside0.mk (hb); have n1_ := Aside0.mk (hi); clear HB; clear HI258; have HB := n0_; have HI258 := n1_; clear n0_ n1_; (try clear hb); (try clear hb2); (try clear hk); (try clear hi)))
  go_ret2
  exact ⟨_, re_, by first | exact Kd.R_nil _ _ _ _ _ | exact Kd.N_nil _ _ _ _ _ | exact Kd.V_nil _ _ _ _ _ | exact Kd.Q_nil _ _ _ _ _ | exact Kd.S_nil _ _ _ _ _, by have ge_ := IsS42.ge HI258.out; exact tb⟩

end Go.Proofs.Ytcgpomicgbmdlaa.PFnCommon
namespace Go.Proofs.Ytcgpomicgbmdlaa.PFnCommon
open Go.RowKit Go.Proofs.YtcgpomicgbmdlaaW.PrintWords Go.Proofs.YtcgpomicgbmdlaaW.PrintLast Go.Proofs.YtcgpomicgbmdlaaW.PrintMore
attribute [local go_sem] max2_int min2_int max_two min_two max_three min_three max_four min_four   -- for this text's walks alone
set_option linter.unusedVariables false
set_option linter.unusedSimpArgs false

/-! ### impl_PathTo: function 42 -/
def impl_PathTo.f (k : Nat) (a0_0 : Cx) (a0_1 : Cx) (a0_2 : Cx) (l0_3 : List (S66)) (a1 : Int) : Option (List Int × Bool) := (impl_Feeder_has.f k a0_0 a0_1 a0_2 l0_3 a1).bind fun bt274 => (if bt274.1 = true then ((impl_Feeder_path.f k bt274.2.1 bt274.2.2.1 bt274.2.2.2 l0_3 a1).bind fun bt278 => (some (bt278.1, true))) else (some (([] : List Int), false)))
theorem impl_PathTo.mono : ∀ a0 a1 a2 a3 a4 k, LeO (impl_PathTo.f k a0 a1 a2 a3 a4) (impl_PathTo.f (k + 1) a0 a1 a2 a3 a4) := by
 intro a0 a1 a2 a3 a4 k
 unfold impl_PathTo.f
 repeat' first
   | (with_reducible exact impl_Feeder_has.mono _ _ _ _ _ _)
   | (with_reducible exact impl_Feeder_path.mono _ _ _ _ _ _)
   | (with_reducible exact LeO.refl _)
   | (with_reducible exact LeO.none _)
   | (with_reducible refine LeO.ite ?_ ?_)
   | (with_reducible refine LeO.bind ?_ (fun _ => ?_))
   | exact impl_Feeder_has.mono _ _ _ _ _ _
   | exact impl_Feeder_path.mono _ _ _ _ _ _
   | exact LeO.none _
   | refine LeO.ite ?_ ?_
   | refine LeO.bind ?_ (fun _ => ?_)
set_option maxHeartbeats 8000000 in
set_option maxRecDepth 100000 in
theorem impl_PathTo.calls (k : Nat) (a0_0 : Cx) (a0_1 : Cx) (a0_2 : Cx) (A0_3 : Option Addr) (c0_3 : Nat) (l0_3 : List (S66)) (a1 : Int) (r1 : List Int) (r2 : Bool) (w : World) (hr0_3 : Kd.C k66 w A0_3 l0_3.length l0_3) (hc0_3 : l0_3.length ≤ c0_3) (h : impl_PathTo.f k a0_0 a0_1 a0_2 l0_3 a1 = some (r1, r2)) :
  Calls Try.prog 42 #[.agg #[.complex .f32 a0_0.re a0_0.im, .complex .f32 a0_1.re a0_1.im, .complex .f32 a0_2.re a0_2.im, .slice A0_3 l0_3.length c0_3], .int .i64 a1] w fun e w' => ∃ v0_ : Value, e = .returned (.tuple #[v0_, .bool r2]) ∧ Kd.R (Kd.int .i64) 2 w' w.heap.size (fun _ => True) v0_ r1 ∧ Below w.heap.size w w' := by
 have hu42 := Try.underlying42
 have HR0_3 := Aside0.mk hr0_3
 have HC0_3 := Aside0.mk hc0_3
 clear hr0_3 hc0_3
 have HB := Aside0.mk (Below.refl w.heap.size w)
 have H : ((impl_Feeder_has.f k a0_0 a0_1 a0_2 l0_3 a1).bind fun bt274 => (if bt274.1 = true then ((impl_Feeder_path.f k bt274.2.1 bt274.2.2.1 bt274.2.2.2 l0_3 a1).bind fun bt278 => (some (bt278.1, true))) else (some (([] : List Int), false)))) = some (r1, r2) := h
 clear h
 replace H := Option.bind_eq_some_iff.mp H
 obtain ⟨⟨t274, t275, t276, t277⟩, A30, H⟩ := H
 try dsimp only at H
 have A3 := Aside0.mk A30
 clear A30
 by_cases c4 : t274 = true
 ·subst c4
  rw [if_pos rfl] at H; try dsimp only at H
  replace H := Option.bind_eq_some_iff.mp H
  obtain ⟨⟨t278, t281, t282, t283⟩, A50, H⟩ := H
  try dsimp only at H
  have A5 := Aside0.mk A50
  clear A50
  simp only [Option.some.injEq, Prod.mk.injEq] at H
  obtain ⟨rfl, rfl⟩ := H
  go_enter Try.func42, Try.ntmps42
  go_wp2_with (first | ((with_reducible refine gate_dst (N := 2) rfl ?_); refine box_event ?hg (N := 2) ?hd (cs := #[.complex .f32 a0_0.re a0_0.im, .complex .f32 a0_1.re a0_1.im, .complex .f32 a0_2.re a0_2.im, .slice A0_3 l0_3.length c0_3]) (t := 42) ?hr ?_; (case hd => rfl); (case hg => rfl); (case hr => first | (go_simp; done) | (go_simp; rfl)); intro gb273 hg w6 hbox hb; have n0_ := Aside0.mk (below_step tb hb); have n1_ := Aside0.mk (hbox); have n2_ := Aside0.mk ((by rw [hg]; exact (below_size tb) : w.heap.size ≤ gb273)); have n3_ := Aside0.mk ((by rw [hg]; exact (below_size tb) : w.heap.size ≤ gb273)); clear HB; have HB := n0_; have BK273 := n1_; have GW273 := n2_; have GE273 := n3_; clear n0_ n1_ n2_ n3_; clear hb hbox hg; have HI273 := Aside0.mk (show IsS42 w _ gb273 a0_0 a0_1 a0_2 l0_3 from ⟨_, _, BK273.out, (by first | exact GE273.out | exact GW273.out), HR0_3.out, HC0_3.out⟩)) | ((with_reducible refine gate_callee (f := 90) rfl ?_); refine gx_ (some 7) Try.func90 #[.pointer (some ⟨gb273, 0, none⟩), .int .i64 a1] ?_; (with_reducible refine (impl_Feeder_has.calls k gb273 a0_0 a0_1 a0_2 l0_3 a1 true t275 t276 t277 w _ ?side1 ?side2 A3.out).mono ?_); (case side1 => have hi_ := HI273.out; exact IsS42.up); (case side2 => have ge_ := IsS42.ge HI273.out; exact tb); rintro e w7 ⟨rfl, hi, hb, hk⟩; refine ⟨_, rfl, ?_⟩; have n0_ := Aside0.mk (hb); have n1_ := Aside0.mk (hi); clear HB; clear HI273; have HB := n0_; have HI273 := n1_; clear n0_ n1_; (try clear hb); (try clear hb2); (try clear hk); (try clear hi)) | ((with_reducible refine gate_callee (f := 101) rfl ?_); refine gx_ (some 10) Try.func101 #[.pointer (some ⟨gb273, 0, none⟩), .int .i64 a1] ?_; (with_reducible refine (impl_Feeder_path.calls k gb273 t275 t276 t277 l0_3 a1 t278 t281 t282 t283 w _ ?side1 ?side2 A5.out).mono ?_); (case side1 => have hi_ := HI273.out; exact IsS42.up); (case side2 => have ge_ := IsS42.ge HI273.out; exact tb); rintro e w8 ⟨v279, rfl, ho0, hi, hb, hk⟩; refine ⟨_, rfl, ?_⟩; have n0_ := Aside0.mk (Kd.R_lower ho0 (below_size (by have ge_ := IsS42.ge HI273.out; exact tb))); have n1_ := Aside0.mk (hb); have n2_ := Aside0.mk (hi); clear HB; clear HI273; have HO280 := n0_; have HB := n1_; have HI273 := n2_; clear n0_ n1_ n2_; (try clear hb); (try clear hb2); (try clear hk); (try clear hi); (try clear ho0)))
  go_ret2
  exact ⟨_, re_, by refine ru ?_; exact HO280.out, by have ge_ := IsS42.ge HI273.out; exact tb⟩
 ·replace c4 := Bool.eq_false_iff.mpr c4
  subst c4
  have H1 : (some (([] : List Int), false)) = some (r1, r2) := by rw [if_neg (show ¬ (false = true) by decide)] at H; exact H
  clear H
  have H := H1
  clear H1
  simp only [Option.some.injEq, Prod.mk.injEq] at H
  obtain ⟨rfl, rfl⟩ := H
  go_enter Try.func42, Try.ntmps42
  go_wp2_with (first | ((with_reducible refine gate_dst (N := 2) rfl ?_); refine box_event ?hg (N := 2) ?hd (cs := #[.complex .f32 a0_0.re a0_0.im, .complex .f32 a0_1.re a0_1.im, .complex .f32 a0_2.re a0_2.im, .slice A0_3 l0_3.length c0_3]) (t := 42) ?hr ?_; (case hd => rfl); (case hg => rfl); (case hr => first | (go_simp; done) | (go_simp; rfl)); intro gb273 hg w9 hbox hb; have n0_ := Aside0.mk (below_step tb hb); have n1_ := Aside0.mk (hbox); have n2_ := Aside0.mk ((by rw [hg]; exact (below_size tb) : w.heap.size ≤ gb273)); have n3_ := Aside0.mk ((by rw [hg]; exact (below_size tb) : w.heap.size ≤ gb273)); clear HB; have HB := n0_; have BK273 := n1_; have GW273 := n2_; have GE273 := n3_; clear n0_ n1_ n2_ n3_; clear hb hbox hg; have HI273 := Aside0.mk (show IsS42 w _ gb273 a0_0 a0_1 a0_2 l0_3 from ⟨_, _, BK273.out, (by first | exact GE273.out | exact GW273.out), HR0_3.out, HC0_3.out⟩)) | ((with_reducible refine gate_callee (f := 90) rfl ?_); refine gx_ (some 7) Try.func90 #[.pointer (some ⟨gb273, 0, none⟩), .int .i64 a1] ?_; (with_reducible refine (impl_Feeder_has.calls k gb273 a0_0 a0_1 a0_2 l0_3 a1 false t275 t276 t277 w _ ?side1 ?side2 A3.out).mono ?_); (case side1 => have hi_ := HI273.out; exact IsS42.up); (case side2 => have ge_ := IsS42.ge HI273.out; exact tb); rintro e w10 ⟨rfl, hi, hb, hk⟩; refine ⟨_, rfl, ?_⟩; have n0_ := Aside0.mk (hb); have n1_ := Aside0.mk (hi); clear HB; clear HI273; have HB := n0_; have HI273 := n1_; clear n0_ n1_; (try clear hb); (try clear hb2); (try clear hk); (try clear hi)))
  go_ret2
  exact ⟨_, re_, by first | exact Kd.R_nil _ _ _ _ _ | exact Kd.N_nil _ _ _ _ _ | exact Kd.V_nil _ _ _ _ _ | exact Kd.Q_nil _ _ _ _ _ | exact Kd.S_nil _ _ _ _ _, by have ge_ := IsS42.ge HI273.out; exact tb⟩

end Go.Proofs.Ytcgpomicgbmdlaa.PFnCommon
namespace Go.Proofs.Ytcgpomicgbmdlaa.PFnCommon
open Go.RowKit Go.Proofs.YtcgpomicgbmdlaaW.PrintWords Go.Proofs.YtcgpomicgbmdlaaW.PrintLast Go.Proofs.YtcgpomicgbmdlaaW.PrintMore
attribute [local go_sem] max2_int min2_int max_two min_two max_three min_three max_four min_four   -- for this text's walks alone
set_option linter.unusedVariables false
set_option linter.unusedSimpArgs false

/-! ### impl_wide: function 126 -/
def impl_wide.f (a0 : Cx) : Option (Nat × Nat) := if cvok .f32 a0.re .f64 = true then (if cvok .f32 a0.im .f64 = true then (some (cv .f32 a0.re .f64, cv .f32 a0.im .f64)) else (none)) else (none)
set_option maxHeartbeats 8000000 in
set_option maxRecDepth 100000 in
theorem impl_wide.calls (a0 : Cx) (r1 : Nat) (r2 : Nat) (w : World) (h : impl_wide.f a0 = some (r1, r2)) :
  Calls Try.prog 126 #[.complex .f32 a0.re a0.im] w fun e w' => e = .returned (.tuple #[.float .f64 r1, .float .f64 r2]) ∧ Below w.heap.size w w' := by
 have HB := Aside0.mk (Below.refl w.heap.size w)
 have H : (if cvok .f32 a0.re .f64 = true then (if cvok .f32 a0.im .f64 = true then (some (cv .f32 a0.re .f64, cv .f32 a0.im .f64)) else (none)) else (none)) = some (r1, r2) := h
 clear h
 by_cases c2 : cvok .f32 a0.re .f64 = true
 ·rw [if_pos c2] at H
  have c2b0 := eq_true c2
  have c2b1 : decide (cvok .f32 a0.re .f64 = true) = true := decide_eq_true c2
  clear c2
  by_cases c3 : cvok .f32 a0.im .f64 = true
  ·rw [if_pos c3] at H
   have c3b0 := eq_true c3
   have c3b1 : decide (cvok .f32 a0.im .f64 = true) = true := decide_eq_true c3
   clear c3
   simp only [Option.some.injEq, Prod.mk.injEq] at H
   obtain ⟨rfl, rfl⟩ := H
   go_enter Try.func126, Try.ntmps126
   go_wp2
   go_ret2
   exact ⟨re_, tb⟩
  ·rw [if_neg c3] at H
   exact absurd H (by simp)
 ·rw [if_neg c2] at H
  exact absurd H (by simp)

end Go.Proofs.Ytcgpomicgbmdlaa.PFnCommon
namespace Go.Proofs.Ytcgpomicgbmdlaa.PFnCommon
open Go.RowKit Go.Proofs.YtcgpomicgbmdlaaW.PrintWords Go.Proofs.YtcgpomicgbmdlaaW.PrintLast Go.Proofs.YtcgpomicgbmdlaaW.PrintMore
attribute [local go_sem] max2_int min2_int max_two min_two max_three min_three max_four min_four   -- for this text's walks alone
set_option linter.unusedVariables false
set_option linter.unusedSimpArgs false

/-! ### impl_MulComplex: function 71 -/
def impl_MulComplex.f (a0 : Cx) (a1 : Cx) : Option (Cx) := (impl_wide.f a0).bind fun bt284 => ((impl_wide.f a1).bind fun bt286 => (if fok .mul .f64 bt284.1 bt286.1 = true then (if fok .mul .f64 bt284.2 bt286.2 = true then (if fok .sub .f64 (fv .mul .f64 bt284.1 bt286.1) (fv .mul .f64 bt284.2 bt286.2) = true then (if cvok .f64 (fv .sub .f64 (fv .mul .f64 bt284.1 bt286.1) (fv .mul .f64 bt284.2 bt286.2)) .f32 = true then (if fok .mul .f64 bt284.1 bt286.2 = true then (if fok .mul .f64 bt284.2 bt286.1 = true then (if fok .add .f64 (fv .mul .f64 bt284.1 bt286.2) (fv .mul .f64 bt284.2 bt286.1) = true then (if cvok .f64 (fv .add .f64 (fv .mul .f64 bt284.1 bt286.2) (fv .mul .f64 bt284.2 bt286.1)) .f32 = true then (some (⟨cv .f64 (fv .sub .f64 (fv .mul .f64 bt284.1 bt286.1) (fv .mul .f64 bt284.2 bt286.2)) .f32, cv .f64 (fv .add .f64 (fv .mul .f64 bt284.1 bt286.2) (fv .mul .f64 bt284.2 bt286.1)) .f32⟩ : Cx)) else (none)) else (none)) else (none)) else (none)) else (none)) else (none)) else (none)) else (none)))
set_option maxHeartbeats 8000000 in
set_option maxRecDepth 100000 in
theorem impl_MulComplex.calls (a0 : Cx) (a1 : Cx) (r : Cx) (w : World) (h : impl_MulComplex.f a0 a1 = some r) :
  Calls Try.prog 71 #[.complex .f32 a0.re a0.im, .complex .f32 a1.re a1.im] w fun e w' => e = .returned (.complex .f32 r.re r.im) ∧ Below w.heap.size w w' := by
 have HB := Aside0.mk (Below.refl w.heap.size w)
 have H : ((impl_wide.f a0).bind fun bt284 => ((impl_wide.f a1).bind fun bt286 => (if fok .mul .f64 bt284.1 bt286.1 = true then (if fok .mul .f64 bt284.2 bt286.2 = true then (if fok .sub .f64 (fv .mul .f64 bt284.1 bt286.1) (fv .mul .f64 bt284.2 bt286.2) = true then (if cvok .f64 (fv .sub .f64 (fv .mul .f64 bt284.1 bt286.1) (fv .mul .f64 bt284.2 bt286.2)) .f32 = true then (if fok .mul .f64 bt284.1 bt286.2 = true then (if fok .mul .f64 bt284.2 bt286.1 = true then (if fok .add .f64 (fv .mul .f64 bt284.1 bt286.2) (fv .mul .f64 bt284.2 bt286.1) = true then (if cvok .f64 (fv .add .f64 (fv .mul .f64 bt284.1 bt286.2) (fv .mul .f64 bt284.2 bt286.1)) .f32 = true then (some (⟨cv .f64 (fv .sub .f64 (fv .mul .f64 bt284.1 bt286.1) (fv .mul .f64 bt284.2 bt286.2)) .f32, cv .f64 (fv .add .f64 (fv .mul .f64 bt284.1 bt286.2) (fv .mul .f64 bt284.2 bt286.1)) .f32⟩ : Cx)) else (none)) else (none)) else (none)) else (none)) else (none)) else (none)) else (none)) else (none)))) = some r := h
 clear h
 replace H := Option.bind_eq_some_iff.mp H
 obtain ⟨⟨t284, t285⟩, A30, H⟩ := H
 try dsimp only at H
 have A3 := Aside0.mk A30
 clear A30
 replace H := Option.bind_eq_some_iff.mp H
 obtain ⟨⟨t286, t287⟩, A40, H⟩ := H
 try dsimp only at H
 have A4 := Aside0.mk A40
 clear A40
 by_cases c5 : fok .mul .f64 t284 t286 = true
 ·rw [if_pos c5] at H
  have c5b0 := eq_true c5
  have c5b1 : decide (fok .mul .f64 t284 t286 = true) = true := decide_eq_true c5
  clear c5
  by_cases c6 : fok .mul .f64 t285 t287 = true
  ·rw [if_pos c6] at H
   have c6b0 := eq_true c6
   have c6b1 : decide (fok .mul .f64 t285 t287 = true) = true := decide_eq_true c6
   clear c6
   by_cases c7 : fok .sub .f64 (fv .mul .f64 t284 t286) (fv .mul .f64 t285 t287) = true
   ·rw [if_pos c7] at H
    have c7b0 := eq_true c7
    have c7b1 : decide (fok .sub .f64 (fv .mul .f64 t284 t286) (fv .mul .f64 t285 t287) = true) = true := decide_eq_true c7
    clear c7
    by_cases c8 : cvok .f64 (fv .sub .f64 (fv .mul .f64 t284 t286) (fv .mul .f64 t285 t287)) .f32 = true
    ·rw [if_pos c8] at H
     have c8b0 := eq_true c8
     have c8b1 : decide (cvok .f64 (fv .sub .f64 (fv .mul .f64 t284 t286) (fv .mul .f64 t285 t287)) .f32 = true) = true := decide_eq_true c8
     clear c8
     by_cases c9 : fok .mul .f64 t284 t287 = true
     ·rw [if_pos c9] at H
      have c9b0 := eq_true c9
      have c9b1 : decide (fok .mul .f64 t284 t287 = true) = true := decide_eq_true c9
      clear c9
      by_cases c10 : fok .mul .f64 t285 t286 = true
      ·rw [if_pos c10] at H
       have c10b0 := eq_true c10
       have c10b1 : decide (fok .mul .f64 t285 t286 = true) = true := decide_eq_true c10
       clear c10
       by_cases c11 : fok .add .f64 (fv .mul .f64 t284 t287) (fv .mul .f64 t285 t286) = true
       ·rw [if_pos c11] at H
        have c11b0 := eq_true c11
        have c11b1 : decide (fok .add .f64 (fv .mul .f64 t284 t287) (fv .mul .f64 t285 t286) = true) = true := decide_eq_true c11
        clear c11
        by_cases c12 : cvok .f64 (fv .add .f64 (fv .mul .f64 t284 t287) (fv .mul .f64 t285 t286)) .f32 = true
        ·rw [if_pos c12] at H
         have c12b0 := eq_true c12
         have c12b1 : decide (cvok .f64 (fv .add .f64 (fv .mul .f64 t284 t287) (fv .mul .f64 t285 t286)) .f32 = true) = true := decide_eq_true c12
         clear c12
         obtain rfl := Option.some.inj H
         go_enter Try.func71, Try.ntmps71
         go_wp2_with (first | ((with_reducible refine gate_callee (f := 126) rfl ?_); refine gx_ (some 11) Try.func126 #[.complex .f32 a0.re a0.im] ?_; (with_reducible refine (impl_wide.calls a0 t284 t285 _ A3.out).mono ?_); rintro e w13 ⟨rfl, hb⟩; refine ⟨_, rfl, ?_⟩; have n0_ := Aside0.mk (below_step tb hb); clear HB; have HB := n0_; clear n0_; (try clear hb); (try clear hb2); (try clear hk); (try clear hi)) | ((with_reducible refine gate_callee (f := 126) rfl ?_); refine gx_ (some 16) Try.func126 #[.complex .f32 a1.re a1.im] ?_; (with_reducible refine (impl_wide.calls a1 t286 t287 _ A4.out).mono ?_); rintro e w14 ⟨rfl, hb⟩; refine ⟨_, rfl, ?_⟩; have n0_ := Aside0.mk (below_step tb hb); clear HB; have HB := n0_; clear n0_; (try clear hb); (try clear hb2); (try clear hk); (try clear hi)))
         go_ret
         exact ⟨re_, tb⟩
        ·rw [if_neg c12] at H
         exact absurd H (by simp)
       ·rw [if_neg c11] at H
        exact absurd H (by simp)
      ·rw [if_neg c10] at H
       exact absurd H (by simp)
     ·rw [if_neg c9] at H
      exact absurd H (by simp)
    ·rw [if_neg c8] at H
     exact absurd H (by simp)
   ·rw [if_neg c7] at H
    exact absurd H (by simp)
  ·rw [if_neg c6] at H
   exact absurd H (by simp)
 ·rw [if_neg c5] at H
  exact absurd H (by simp)

end Go.Proofs.Ytcgpomicgbmdlaa.PFnCommon
namespace Go.Proofs.Ytcgpomicgbmdlaa.PFnCommon
open Go.RowKit Go.Proofs.YtcgpomicgbmdlaaW.PrintWords Go.Proofs.YtcgpomicgbmdlaaW.PrintLast Go.Proofs.YtcgpomicgbmdlaaW.PrintMore
attribute [local go_sem] max2_int min2_int max_two min_two max_three min_three max_four min_four   -- for this text's walks alone
set_option linter.unusedVariables false
set_option linter.unusedSimpArgs false

/-! ### impl_nan: function 161 -/
def impl_nan.f  : Option (Nat) := (math_NaN.f).bind fun t288 => (if cvok .f64 t288 .f32 = true then (some (cv .f64 t288 .f32)) else (none))
set_option maxHeartbeats 8000000 in
set_option maxRecDepth 100000 in
theorem impl_nan.calls  (r : Nat) (w : World) (h : impl_nan.f  = some r) :
  Calls Try.prog 161 #[] w fun e w' => e = .returned (.float .f32 r) ∧ Drawn0 w w' := by
 have H : ((math_NaN.f).bind fun t288 => (if cvok .f64 t288 .f32 = true then (some (cv .f64 t288 .f32)) else (none))) = some r := h
 clear h
 replace H := Option.bind_eq_some_iff.mp H
 obtain ⟨t288, A10, H⟩ := H
 try dsimp only at H
 have A1 := Aside0.mk A10
 clear A10
 by_cases c2 : cvok .f64 t288 .f32 = true
 ·rw [if_pos c2] at H
  have c2b0 := eq_true c2
  have c2b1 : decide (cvok .f64 t288 .f32 = true) = true := decide_eq_true c2
  clear c2
  obtain rfl := Option.some.inj H
  go_enter Try.func161, Try.ntmps161
  go_wp2_with (first | ((with_reducible refine gate_callee (f := 175) rfl ?_); refine gx_ (some 1) Try.func175 #[] ?_; (with_reducible refine (math_NaN.calls  t288 _ A1.out).mono ?_); rintro e w' ⟨rfl, ⟨nd, rfl⟩⟩; refine ⟨_, rfl, ?_⟩))
  go_ret
  exact ⟨rs_, dr_⟩
 ·rw [if_neg c2] at H
  exact absurd H (by simp)

-- NOT PRINTED: function 179 (math_Float64bits)

/-! ### math_Abs: function 162 -/
def math_Abs.f (a0 : Nat) : Option (Nat) := some (fromI (Go.bits .andNot .u64 (bitsI a0) 9223372036854775808))
set_option maxHeartbeats 8000000 in
set_option maxRecDepth 100000 in
theorem math_Abs.calls (a0 : Nat) (r : Nat) (w : World) (h : math_Abs.f a0 = some r) :
  Calls Try.prog 162 #[.float .f64 a0] w fun e w' => e = .returned (.float .f64 r) ∧ Drawn0 w w' := by
 have H : (some (fromI (Go.bits .andNot .u64 (bitsI a0) 9223372036854775808))) = some r := h
 clear h
 obtain rfl := Option.some.inj H
 go_enter Try.func162, Try.ntmps162
 go_wp2
 go_ret
 exact ⟨rs_, dr_⟩

-- NOT PRINTED: function 182 (math_archTrunc)

/-! ### math_Copysign: function 184 -/
def math_Copysign.f (a0 : Nat) (a1 : Nat) : Option (Nat) := some (fromI (Go.bits .or .u64 (Go.bits .andNot .u64 (bitsI a0) 9223372036854775808) (Go.bits .and .u64 (bitsI a1) 9223372036854775808)))
set_option maxHeartbeats 8000000 in
set_option maxRecDepth 100000 in
theorem math_Copysign.calls (a0 : Nat) (a1 : Nat) (r : Nat) (w : World) (h : math_Copysign.f a0 a1 = some r) :
  Calls Try.prog 184 #[.float .f64 a0, .float .f64 a1] w fun e w' => e = .returned (.float .f64 r) ∧ Drawn0 w w' := by
 have H : (some (fromI (Go.bits .or .u64 (Go.bits .andNot .u64 (bitsI a0) 9223372036854775808) (Go.bits .and .u64 (bitsI a1) 9223372036854775808)))) = some r := h
 clear h
 obtain rfl := Option.some.inj H
 go_enter Try.func184, Try.ntmps184
 go_wp2
 go_ret
 exact ⟨rs_, dr_⟩

end Go.Proofs.Ytcgpomicgbmdlaa.PFnCommon
namespace Go.Proofs.Ytcgpomicgbmdlaa.PFnCommon
open Go.RowKit Go.Proofs.YtcgpomicgbmdlaaW.PrintWords Go.Proofs.YtcgpomicgbmdlaaW.PrintLast Go.Proofs.YtcgpomicgbmdlaaW.PrintMore
attribute [local go_sem] max2_int min2_int max_two min_two max_three min_three max_four min_four   -- for this text's walks alone
set_option linter.unusedVariables false
set_option linter.unusedSimpArgs false

/-! ### math_trunc: function 183 -/
def math_trunc.f (a0 : Nat) : Option (Nat) := (math_Abs.f a0).bind fun t289 => (if (flt .f64 t289 4607182418800017408) = true then ((math_Copysign.f 0 a0).bind fun t290 => (some t290)) else (if (IntKind.u64.wrap ((Go.bits .and .u64 ((bitsI a0) / 4503599627370496) 2047) - 1023)) < 52 then (if 0 ≤ (IntKind.u64.wrap (52 - (IntKind.u64.wrap ((Go.bits .and .u64 ((bitsI a0) / 4503599627370496) 2047) - 1023)))) then (some (fromI (Go.bits .andNot .u64 (bitsI a0) (IntKind.u64.wrap ((shl .u64 1 (IntKind.u64.wrap (52 - (IntKind.u64.wrap ((Go.bits .and .u64 ((bitsI a0) / 4503599627370496) 2047) - 1023))))) - 1))))) else (none)) else (some (fromI (bitsI a0)))))
set_option maxHeartbeats 8000000 in
set_option maxRecDepth 100000 in
theorem math_trunc.calls (a0 : Nat) (r : Nat) (w : World) (h : math_trunc.f a0 = some r) :
  Calls Try.prog 183 #[.float .f64 a0] w fun e w' => e = .returned (.float .f64 r) ∧ Drawn0 w w' := by
 have H : ((math_Abs.f a0).bind fun t289 => (if (flt .f64 t289 4607182418800017408) = true then ((math_Copysign.f 0 a0).bind fun t290 => (some t290)) else (if (IntKind.u64.wrap ((Go.bits .and .u64 ((bitsI a0) / 4503599627370496) 2047) - 1023)) < 52 then (if 0 ≤ (IntKind.u64.wrap (52 - (IntKind.u64.wrap ((Go.bits .and .u64 ((bitsI a0) / 4503599627370496) 2047) - 1023)))) then (some (fromI (Go.bits .andNot .u64 (bitsI a0) (IntKind.u64.wrap ((shl .u64 1 (IntKind.u64.wrap (52 - (IntKind.u64.wrap ((Go.bits .and .u64 ((bitsI a0) / 4503599627370496) 2047) - 1023))))) - 1))))) else (none)) else (some (fromI (bitsI a0)))))) = some r := h
 clear h
 replace H := Option.bind_eq_some_iff.mp H
 obtain ⟨t289, A20, H⟩ := H
 try dsimp only at H
 have A2 := Aside0.mk A20
 clear A20
 by_cases c3 : (flt .f64 t289 4607182418800017408) = true
 ·rw [if_pos c3] at H
  have c3b0 : (flt .f64 t289 4607182418800017408) = true := c3
  clear c3
  replace H := Option.bind_eq_some_iff.mp H
  obtain ⟨t290, A40, H⟩ := H
  try dsimp only at H
  have A4 := Aside0.mk A40
  clear A40
  obtain rfl := Option.some.inj H
  go_enter Try.func183, Try.ntmps183
  go_wp2_with (first | ((with_reducible refine gate_callee (f := 162) rfl ?_); refine gx_ (some 6) Try.func162 #[.float .f64 a0] ?_; (with_reducible refine (math_Abs.calls a0 t289 _ A2.out).mono ?_); rintro e w' ⟨rfl, ⟨nd, rfl⟩⟩; refine ⟨_, rfl, ?_⟩) | ((with_reducible refine gate_callee (f := 184) rfl ?_); refine gx_ (some 9) Try.func184 #[.float .f64 0, .float .f64 a0] ?_; (with_reducible refine (math_Copysign.calls 0 a0 t290 _ A4.out).mono ?_); rintro e w' ⟨rfl, ⟨nd, rfl⟩⟩; refine ⟨_, rfl, ?_⟩))
  go_ret
  exact ⟨rs_, dr_⟩
 ·rw [if_neg c3] at H
  have c3b0 : (flt .f64 t289 4607182418800017408) = false := by simpa using c3
  clear c3
  by_cases c5 : (IntKind.u64.wrap ((Go.bits .and .u64 ((bitsI a0) / 4503599627370496) 2047) - 1023)) < 52
  ·rw [if_pos c5] at H
   have c5b0 : decide ((IntKind.u64.wrap ((Go.bits .and .u64 ((bitsI a0) / 4503599627370496) 2047) - 1023)) < 52) = true := decide_eq_true c5
   clear c5
   obtain ⟨ji6, hji6⟩ : ∃ j_ : Int, (IntKind.u64.wrap (52 - (IntKind.u64.wrap ((Go.bits .and .u64 ((bitsI a0) / 4503599627370496) 2047) - 1023)))) = j_ := ⟨_, rfl⟩
   replace H : (if 0 ≤ (ji6) then (some (fromI (Go.bits .andNot .u64 (bitsI a0) (IntKind.u64.wrap ((shl .u64 1 (ji6)) - 1))))) else (none)) = some r := by first | (rw [hji6] at H; exact H) | (simp only [hji6] at H ⊢; exact H)
   (try rw [hji6] at A2)
   by_cases c7 : 0 ≤ (ji6)
   ·rw [if_pos c7] at H
    have c7b0 := eq_true c7
    have c7b1 : decide (0 ≤ (ji6)) = true := decide_eq_true c7
    clear c7
    obtain ⟨ji8, hji8⟩ : ∃ j_ : Int, (shl .u64 1 (ji6)) = j_ := ⟨_, rfl⟩
    replace H : (some (fromI (Go.bits .andNot .u64 (bitsI a0) (IntKind.u64.wrap ((ji8) - 1))))) = some r := by first | (rw [hji8] at H; exact H) | (simp only [hji8] at H ⊢; exact H)
    (try rw [hji8] at A2)
    have hji8_ : (IntKind.u64.wrap (1 * 2 ^ min (ji6).toNat 64)) = ji8 := hji8
    have hji8z : (ji6) ≤ 64 → (IntKind.u64.wrap (1 * 2 ^ (ji6).toNat)) = ji8 := shl_small hji8
    have hji8u : (IntKind.u64.wrap (2 ^ min (ji6).toNat 64)) = ji8 := by have h_ := hji8_; rw [Int.one_mul] at h_; exact h_
    have hji8v : (ji6) ≤ 64 → (IntKind.u64.wrap (2 ^ (ji6).toNat)) = ji8 := fun hle_ => by have h_ := hji8z hle_; rw [Int.one_mul] at h_; exact h_
    obtain rfl := Option.some.inj H
    go_enter Try.func183, Try.ntmps183
    go_wp2_with (first | ((with_reducible refine gate_callee (f := 162) rfl ?_); refine gx_ (some 6) Try.func162 #[.float .f64 a0] ?_; (with_reducible refine (math_Abs.calls a0 t289 _ A2.out).mono ?_); rintro e w' ⟨rfl, ⟨nd, rfl⟩⟩; refine ⟨_, rfl, ?_⟩))
    go_ret
    exact ⟨by first | rfl | (simp; done) | (simp only [← hji6, ← hji8] <;> (first | rfl | simp)) | (simp [*]; done), dr_⟩
   ·rw [if_neg c7] at H
    exact absurd H (by simp)
  ·rw [if_neg c5] at H
   have c5b0 : decide ((IntKind.u64.wrap ((Go.bits .and .u64 ((bitsI a0) / 4503599627370496) 2047) - 1023)) < 52) = false := decide_eq_false c5
   clear c5
   obtain rfl := Option.some.inj H
   go_enter Try.func183, Try.ntmps183
   go_wp2_with (first | ((with_reducible refine gate_callee (f := 162) rfl ?_); refine gx_ (some 6) Try.func162 #[.float .f64 a0] ?_; (with_reducible refine (math_Abs.calls a0 t289 _ A2.out).mono ?_); rintro e w' ⟨rfl, ⟨nd, rfl⟩⟩; refine ⟨_, rfl, ?_⟩))
   go_ret
   exact ⟨rs_, dr_⟩

end Go.Proofs.Ytcgpomicgbmdlaa.PFnCommon
namespace Go.Proofs.Ytcgpomicgbmdlaa.PFnCommon
open Go.RowKit Go.Proofs.YtcgpomicgbmdlaaW.PrintWords Go.Proofs.YtcgpomicgbmdlaaW.PrintLast Go.Proofs.YtcgpomicgbmdlaaW.PrintMore
attribute [local go_sem] max2_int min2_int max_two min_two max_three min_three max_four min_four   -- for this text's walks alone
set_option linter.unusedVariables false
set_option linter.unusedSimpArgs false

/-! ### math_Trunc: function 180 -/
def math_Trunc.f (a0 : Nat) : Option (Nat) := if trok a0 = true then (some (trv a0)) else (none)
set_option maxHeartbeats 8000000 in
set_option maxRecDepth 100000 in
theorem math_Trunc.calls (a0 : Nat) (r : Nat) (w : World) (h : math_Trunc.f a0 = some r) :
  Calls Try.prog 180 #[.float .f64 a0] w fun e w' => e = .returned (.float .f64 r) ∧ Drawn0 w w' := by
 have H : (if trok a0 = true then (some (trv a0)) else (none)) = some r := h
 clear h
 by_cases c2 : trok a0 = true
 ·rw [if_pos c2] at H
  have c2b0 := eq_true c2
  have c2b1 : decide (trok a0 = true) = true := decide_eq_true c2
  clear c2
  obtain rfl := Option.some.inj H
  go_enter Try.func180, Try.ntmps180
  go_wp2
  go_ret
  exact ⟨rs_, dr_⟩
 ·rw [if_neg c2] at H
  exact absurd H (by simp)

end Go.Proofs.Ytcgpomicgbmdlaa.PFnCommon
namespace Go.Proofs.Ytcgpomicgbmdlaa.PFnCommon
open Go.RowKit Go.Proofs.YtcgpomicgbmdlaaW.PrintWords Go.Proofs.YtcgpomicgbmdlaaW.PrintLast Go.Proofs.YtcgpomicgbmdlaaW.PrintMore
attribute [local go_sem] max2_int min2_int max_two min_two max_three min_three max_four min_four   -- for this text's walks alone
set_option linter.unusedVariables false
set_option linter.unusedSimpArgs false

/-! ### impl_partOf: function 163 -/
def impl_partOf.f (a0 : Nat) : Option (Nat) := (math_Trunc.f a0).bind fun t291 => (if (fne .f64 t291 0) = true then (if fok .sub .f64 a0 t291 = true then (if (flt .f64 (fv .sub .f64 a0 t291) 0) = true then (if fok .add .f64 (fv .sub .f64 a0 t291) 4607182418800017408 = true then (some (fv .add .f64 (fv .sub .f64 a0 t291) 4607182418800017408)) else (none)) else (some (fv .sub .f64 a0 t291))) else (none)) else (if (flt .f64 a0 0) = true then (if fok .add .f64 a0 4607182418800017408 = true then (some (fv .add .f64 a0 4607182418800017408)) else (none)) else (some a0)))
set_option maxHeartbeats 8000000 in
set_option maxRecDepth 100000 in
theorem impl_partOf.calls (a0 : Nat) (r : Nat) (w : World) (h : impl_partOf.f a0 = some r) :
  Calls Try.prog 163 #[.float .f64 a0] w fun e w' => e = .returned (.float .f64 r) ∧ Drawn0 w w' := by
 have H : ((math_Trunc.f a0).bind fun t291 => (if (fne .f64 t291 0) = true then (if fok .sub .f64 a0 t291 = true then (if (flt .f64 (fv .sub .f64 a0 t291) 0) = true then (if fok .add .f64 (fv .sub .f64 a0 t291) 4607182418800017408 = true then (some (fv .add .f64 (fv .sub .f64 a0 t291) 4607182418800017408)) else (none)) else (some (fv .sub .f64 a0 t291))) else (none)) else (if (flt .f64 a0 0) = true then (if fok .add .f64 a0 4607182418800017408 = true then (some (fv .add .f64 a0 4607182418800017408)) else (none)) else (some a0)))) = some r := h
 clear h
 replace H := Option.bind_eq_some_iff.mp H
 obtain ⟨t291, A20, H⟩ := H
 try dsimp only at H
 have A2 := Aside0.mk A20
 clear A20
 by_cases c3 : (fne .f64 t291 0) = true
 ·rw [if_pos c3] at H
  have c3b0 : (fne .f64 t291 0) = true := c3
  clear c3
  by_cases c4 : fok .sub .f64 a0 t291 = true
  ·rw [if_pos c4] at H
   have c4b0 := eq_true c4
   have c4b1 : decide (fok .sub .f64 a0 t291 = true) = true := decide_eq_true c4
   clear c4
   by_cases c5 : (flt .f64 (fv .sub .f64 a0 t291) 0) = true
   ·rw [if_pos c5] at H
    have c5b0 : (flt .f64 (fv .sub .f64 a0 t291) 0) = true := c5
    clear c5
    by_cases c6 : fok .add .f64 (fv .sub .f64 a0 t291) 4607182418800017408 = true
    ·rw [if_pos c6] at H
     have c6b0 := eq_true c6
     have c6b1 : decide (fok .add .f64 (fv .sub .f64 a0 t291) 4607182418800017408 = true) = true := decide_eq_true c6
     clear c6
     obtain rfl := Option.some.inj H
     go_enter Try.func163, Try.ntmps163
     go_wp2_with (first | ((with_reducible refine gate_callee (f := 180) rfl ?_); refine gx_ (some 5) Try.func180 #[.float .f64 a0] ?_; (with_reducible refine (math_Trunc.calls a0 t291 _ A2.out).mono ?_); rintro e w' ⟨rfl, ⟨nd, rfl⟩⟩; refine ⟨_, rfl, ?_⟩))
     go_ret
     exact ⟨rs_, dr_⟩
    ·rw [if_neg c6] at H
     exact absurd H (by simp)
   ·rw [if_neg c5] at H
    have c5b0 : (flt .f64 (fv .sub .f64 a0 t291) 0) = false := by simpa using c5
    clear c5
    obtain rfl := Option.some.inj H
    go_enter Try.func163, Try.ntmps163
    go_wp2_with (first | ((with_reducible refine gate_callee (f := 180) rfl ?_); refine gx_ (some 5) Try.func180 #[.float .f64 a0] ?_; (with_reducible refine (math_Trunc.calls a0 t291 _ A2.out).mono ?_); rintro e w' ⟨rfl, ⟨nd, rfl⟩⟩; refine ⟨_, rfl, ?_⟩))
    go_ret
    exact ⟨rs_, dr_⟩
  ·rw [if_neg c4] at H
   exact absurd H (by simp)
 ·rw [if_neg c3] at H
  have c3b0 : (fne .f64 t291 0) = false := by simpa using c3
  clear c3
  by_cases c7 : (flt .f64 a0 0) = true
  ·rw [if_pos c7] at H
   have c7b0 : (flt .f64 a0 0) = true := c7
   clear c7
   by_cases c8 : fok .add .f64 a0 4607182418800017408 = true
   ·rw [if_pos c8] at H
    have c8b0 := eq_true c8
    have c8b1 : decide (fok .add .f64 a0 4607182418800017408 = true) = true := decide_eq_true c8
    clear c8
    obtain rfl := Option.some.inj H
    go_enter Try.func163, Try.ntmps163
    go_wp2_with (first | ((with_reducible refine gate_callee (f := 180) rfl ?_); refine gx_ (some 5) Try.func180 #[.float .f64 a0] ?_; (with_reducible refine (math_Trunc.calls a0 t291 _ A2.out).mono ?_); rintro e w' ⟨rfl, ⟨nd, rfl⟩⟩; refine ⟨_, rfl, ?_⟩))
    go_ret
    exact ⟨rs_, dr_⟩
   ·rw [if_neg c8] at H
    exact absurd H (by simp)
  ·rw [if_neg c7] at H
   have c7b0 : (flt .f64 a0 0) = false := by simpa using c7
   clear c7
   obtain rfl := Option.some.inj H
   go_enter Try.func163, Try.ntmps163
   go_wp2_with (first | ((with_reducible refine gate_callee (f := 180) rfl ?_); refine gx_ (some 5) Try.func180 #[.float .f64 a0] ?_; (with_reducible refine (math_Trunc.calls a0 t291 _ A2.out).mono ?_); rintro e w' ⟨rfl, ⟨nd, rfl⟩⟩; refine ⟨_, rfl, ?_⟩))
   go_ret
   exact ⟨rs_, dr_⟩

end Go.Proofs.Ytcgpomicgbmdlaa.PFnCommon
namespace Go.Proofs.Ytcgpomicgbmdlaa.PFnCommon
open Go.RowKit Go.Proofs.YtcgpomicgbmdlaaW.PrintWords Go.Proofs.YtcgpomicgbmdlaaW.PrintLast Go.Proofs.YtcgpomicgbmdlaaW.PrintMore
attribute [local go_sem] max2_int min2_int max_two min_two max_three min_three max_four min_four   -- for this text's walks alone
set_option linter.unusedVariables false
set_option linter.unusedSimpArgs false

/-! ### impl_sine: function 164 -/
mutual
def impl_sine.j0 : Nat → Nat → Bool → Option (Nat)
 | 0, _, _ => none
 | k + 1, x3, x4 => if (fgt .f64 x3 4598175219545276416) = true then (if fok .sub .f64 4602678819172646912 x3 = true then (impl_sine.j1 k (fv .sub .f64 4602678819172646912 x3) x4) else (none)) else (impl_sine.j1 k x3 x4)
def impl_sine.j1 : Nat → Nat → Bool → Option (Nat)
 | 0, _, _ => none
 | k + 1, x3, x4 => if fok .mul .f64 x3 4618760256179416344 = true then (if fok .mul .f64 (fv .mul .f64 x3 4618760256179416344) (fv .mul .f64 x3 4618760256179416344) = true then (impl_sine.l0 k x4 (fv .mul .f64 x3 4618760256179416344) (fv .mul .f64 (fv .mul .f64 x3 4618760256179416344) (fv .mul .f64 x3 4618760256179416344)) 4607182418800017408 8) else (none)) else (none)
def impl_sine.l0 : Nat → Bool → Nat → Nat → Nat → Int → Option (Nat)
 | 0, _, _, _, _, _ => none
 | k + 1, x4, x5, x6, x7, x8 => if x8 ≥ 1 then (if fok .mul .f64 x6 x7 = true then (if fok .quo .f64 (fv .mul .f64 x6 x7) (floatOfInt .f64 (wrap64 ((wrap64 (2 * x8)) * (wrap64 ((wrap64 (2 * x8)) + 1))))) = true then (if fok .sub .f64 4607182418800017408 (fv .quo .f64 (fv .mul .f64 x6 x7) (floatOfInt .f64 (wrap64 ((wrap64 (2 * x8)) * (wrap64 ((wrap64 (2 * x8)) + 1)))))) = true then (impl_sine.l0 k x4 x5 x6 (fv .sub .f64 4607182418800017408 (fv .quo .f64 (fv .mul .f64 x6 x7) (floatOfInt .f64 (wrap64 ((wrap64 (2 * x8)) * (wrap64 ((wrap64 (2 * x8)) + 1))))))) (wrap64 (x8 - 1))) else (none)) else (none)) else (none)) else (if x4 = true then (if fok .mul .f64 x5 x7 = true then (some (fneg .f64 (fv .mul .f64 x5 x7))) else (none)) else (if fok .mul .f64 x5 x7 = true then (some (fv .mul .f64 x5 x7)) else (none)))
end
def impl_sine.f (k : Nat) (a0 : Nat) : Option (Nat) := (impl_partOf.f a0).bind fun t292 => (if (fge .f64 t292 4602678819172646912) = true then (if fok .sub .f64 t292 4602678819172646912 = true then (impl_sine.j0 k (fv .sub .f64 t292 4602678819172646912) (fge .f64 t292 4602678819172646912)) else (none)) else (impl_sine.j0 k t292 (fge .f64 t292 4602678819172646912)))
theorem impl_sine.mono_l : ∀ k, (∀ y0 y1, LeO (impl_sine.j0 k y0 y1) (impl_sine.j0 (k + 1) y0 y1)) ∧ (∀ y0 y1, LeO (impl_sine.j1 k y0 y1) (impl_sine.j1 (k + 1) y0 y1)) ∧ (∀ y0 y1 y2 y3 y4, LeO (impl_sine.l0 k y0 y1 y2 y3 y4) (impl_sine.l0 (k + 1) y0 y1 y2 y3 y4))
 | 0 => ⟨fun _ _ r h => by simp [impl_sine.j0] at h, fun _ _ r h => by simp [impl_sine.j1] at h, fun _ _ _ _ _ r h => by simp [impl_sine.l0] at h⟩
 | k + 1 => by
  obtain ⟨ih0, ih1, ih2⟩ := impl_sine.mono_l k
  refine ⟨?_, ?_, ?_⟩
  ·intro y0 y1
   unfold impl_sine.j0
   repeat' first
   | (with_reducible exact ih0 _ _)
   | (with_reducible exact ih1 _ _)
   | (with_reducible exact ih2 _ _ _ _ _)
   | (with_reducible exact LeO.refl _)
   | (with_reducible exact LeO.none _)
   | (with_reducible refine LeO.ite ?_ ?_)
   | (with_reducible refine LeO.bind ?_ (fun _ => ?_))
   | exact ih0 _ _
   | exact ih1 _ _
   | exact ih2 _ _ _ _ _
   | exact LeO.none _
   | refine LeO.ite ?_ ?_
   | refine LeO.bind ?_ (fun _ => ?_)
  ·intro y0 y1
   unfold impl_sine.j1
   repeat' first
   | (with_reducible exact ih0 _ _)
   | (with_reducible exact ih1 _ _)
   | (with_reducible exact ih2 _ _ _ _ _)
   | (with_reducible exact LeO.refl _)
   | (with_reducible exact LeO.none _)
   | (with_reducible refine LeO.ite ?_ ?_)
   | (with_reducible refine LeO.bind ?_ (fun _ => ?_))
   | exact ih0 _ _
   | exact ih1 _ _
   | exact ih2 _ _ _ _ _
   | exact LeO.none _
   | refine LeO.ite ?_ ?_
   | refine LeO.bind ?_ (fun _ => ?_)
  ·intro y0 y1 y2 y3 y4
   unfold impl_sine.l0
   repeat' first
   | (with_reducible exact ih0 _ _)
   | (with_reducible exact ih1 _ _)
   | (with_reducible exact ih2 _ _ _ _ _)
   | (with_reducible exact LeO.refl _)
   | (with_reducible exact LeO.none _)
   | (with_reducible refine LeO.ite ?_ ?_)
   | (with_reducible refine LeO.bind ?_ (fun _ => ?_))
   | exact ih0 _ _
   | exact ih1 _ _
   | exact ih2 _ _ _ _ _
   | exact LeO.none _
   | refine LeO.ite ?_ ?_
   | refine LeO.bind ?_ (fun _ => ?_)
theorem impl_sine.mono : ∀ a0 k, LeO (impl_sine.f k a0) (impl_sine.f (k + 1) a0) := by
 intro a0 k
 obtain ⟨ih0, ih1, ih2⟩ := impl_sine.mono_l k
 unfold impl_sine.f
 repeat' first
   | (with_reducible exact ih0 _ _)
   | (with_reducible exact ih1 _ _)
   | (with_reducible exact ih2 _ _ _ _ _)
   | (with_reducible exact LeO.refl _)
   | (with_reducible exact LeO.none _)
   | (with_reducible refine LeO.ite ?_ ?_)
   | (with_reducible refine LeO.bind ?_ (fun _ => ?_))
   | exact ih0 _ _
   | exact ih1 _ _
   | exact ih2 _ _ _ _ _
   | exact LeO.none _
   | refine LeO.ite ?_ ?_
   | refine LeO.bind ?_ (fun _ => ?_)
set_option maxHeartbeats 8000000 in
set_option maxRecDepth 100000 in
theorem impl_sine.calls (k : Nat) (a0 : Nat) (r : Nat) (w : World) (h : impl_sine.f k a0 = some r) :
  Calls Try.prog 164 #[.float .f64 a0] w fun e w' => e = .returned (.float .f64 r) ∧ Drawn0 w w' := by
 have H : ((impl_partOf.f a0).bind fun t292 => (if (fge .f64 t292 4602678819172646912) = true then (if fok .sub .f64 t292 4602678819172646912 = true then (impl_sine.j0 k (fv .sub .f64 t292 4602678819172646912) (fge .f64 t292 4602678819172646912)) else (none)) else (impl_sine.j0 k t292 (fge .f64 t292 4602678819172646912)))) = some r := h
 clear h
 replace H := Option.bind_eq_some_iff.mp H
 obtain ⟨t292, A20, H⟩ := H
 try dsimp only at H
 have A2 := Aside0.mk A20
 clear A20
 have HC3 := Aside0.mk H
 clear H
 go_enter Try.func164, Try.ntmps164
 go_upto_if 13 with (first | ((with_reducible refine gate_callee (f := 163) rfl ?_); refine gx_ (some 10) Try.func163 #[.float .f64 a0] ?_; (with_reducible refine (impl_partOf.calls a0 t292 _ A2.out).mono ?_); rintro e w' ⟨rfl, ⟨nd, rfl⟩⟩; refine ⟨_, rfl, ?_⟩))
 try refine pt_ ?_
 go_cut [3, 4] (fun v3 v4 wc => ∃ (kq : Nat) (x3_2 : Nat) (x4_2 : Bool), v3 = .float .f64 x3_2 ∧ v4 = .bool x4_2 ∧ Aside0 (impl_sine.j0 kq x3_2 x4_2 = some r) ∧ Aside0 (kq ≤ k) ∧ Drawn0 w wc)
 case first =>
  have H := HC3.out
  clear HC3
  by_cases c4 : (fge .f64 t292 4602678819172646912) = true
  ·rw [if_pos c4] at H
   have c4b0 : (fge .f64 t292 4602678819172646912) = true := c4
   clear c4
   (first | rw [c4b0] | (simp only [i64_w, i32_w]; rw [c4b0]) | skip)
   by_cases c5 : fok .sub .f64 t292 4602678819172646912 = true
   ·rw [if_pos c5] at H
    have c5b0 := eq_true c5
    have c5b1 : decide (fok .sub .f64 t292 4602678819172646912 = true) = true := decide_eq_true c5
    clear c5
    have H' := Aside0.mk H
    clear H
    go_wp2
    go_meet
    case rel => exact ⟨_, (fv .sub .f64 t292 4602678819172646912), ((fge .f64 t292 4602678819172646912)), rs_, rs_, H', ⟨by exact om_⟩, dr_⟩
   ·rw [if_neg c5] at H
    exact absurd H (by simp)
  ·rw [if_neg c4] at H
   have c4b0 : (fge .f64 t292 4602678819172646912) = false := by simpa using c4
   clear c4
   (first | rw [c4b0] | (simp only [i64_w, i32_w]; rw [c4b0]) | skip)
   have H' := Aside0.mk H
   clear H
   go_wp2
   go_meet
   case rel => exact ⟨_, (t292), ((fge .f64 t292 4602678819172646912)), rs_, rs_, H', ⟨by exact om_⟩, dr_⟩
 case rest =>
  clear HC3
  try clear c1
  try clear p2
  try clear c4
  try clear c4b0
  try clear c5
  try clear c5b0
  try clear c5b1
  obtain ⟨kq, x3_2, x4_2, rfl, rfl, HA, HJ2, ⟨mc2, rfl⟩⟩ := hcut
  cases kq with
  | zero => exact absurd HA.out (by simp [impl_sine.j0])
  | succ kj2 =>
   have H := HA.out
   clear HA
   simp only [impl_sine.j0] at H
   have HC6 := Aside0.mk H
   clear H
   go_upto_if 17 with (fail)
   go_cut [3] (fun v3 wc => ∃ (kq : Nat) (x3_5 : Nat), v3 = .float .f64 x3_5 ∧ Aside0 (impl_sine.j1 kq x3_5 x4_2 = some r) ∧ Aside0 (kq ≤ kj2) ∧ Drawn0 w wc)
   case first =>
    have H := HC6.out
    clear HC6
    by_cases c7 : (fgt .f64 x3_2 4598175219545276416) = true
    ·rw [if_pos c7] at H
     have c7b0 : (fgt .f64 x3_2 4598175219545276416) = true := c7
     clear c7
     (first | rw [c7b0] | (simp only [i64_w, i32_w]; rw [c7b0]) | skip)
     by_cases c8 : fok .sub .f64 4602678819172646912 x3_2 = true
     ·rw [if_pos c8] at H
      have c8b0 := eq_true c8
      have c8b1 : decide (fok .sub .f64 4602678819172646912 x3_2 = true) = true := decide_eq_true c8
      clear c8
      have H' := Aside0.mk H
      clear H
      go_wp2
      go_meet
      case rel => exact ⟨_, (fv .sub .f64 4602678819172646912 x3_2), rs_, H', ⟨by have := HJ2.out; exact om_⟩, dr_⟩
     ·rw [if_neg c8] at H
      exact absurd H (by simp)
    ·rw [if_neg c7] at H
     have c7b0 : (fgt .f64 x3_2 4598175219545276416) = false := by simpa using c7
     clear c7
     (first | rw [c7b0] | (simp only [i64_w, i32_w]; rw [c7b0]) | skip)
     have H' := Aside0.mk H
     clear H
     go_wp2
     go_meet
     case rel => exact ⟨_, (x3_2), rs_, H', ⟨by have := HJ2.out; exact om_⟩, dr_⟩
   case rest =>
    clear HC6
    try clear c1
    try clear c2
    try clear p2
    try clear c4
    try clear c4b0
    try clear c5
    try clear c5b0
    try clear c5b1
    try clear c7
    try clear c7b0
    try clear c8
    try clear c8b0
    try clear c8b1
    try clear p2
    obtain ⟨kq, x3_5, rfl, HA, HJ5, ⟨mc5, rfl⟩⟩ := hcut
    cases kq with
    | zero => exact absurd HA.out (by simp [impl_sine.j1])
    | succ kj5 =>
     have H := HA.out
     clear HA
     simp only [impl_sine.j1] at H
     by_cases c9 : fok .mul .f64 x3_5 4618760256179416344 = true
     ·rw [if_pos c9] at H
      have c9b0 := eq_true c9
      have c9b1 : decide (fok .mul .f64 x3_5 4618760256179416344 = true) = true := decide_eq_true c9
      clear c9
      by_cases c10 : fok .mul .f64 (fv .mul .f64 x3_5 4618760256179416344) (fv .mul .f64 x3_5 4618760256179416344) = true
      ·rw [if_pos c10] at H
       have c10b0 := eq_true c10
       have c10b1 : decide (fok .mul .f64 (fv .mul .f64 x3_5 4618760256179416344) (fv .mul .f64 x3_5 4618760256179416344) = true) = true := decide_eq_true c10
       clear c10
       have H' := Aside0.mk H
       clear H
       go_wp2
       go_loopg [7, 8] kj5 (fun kq v7 v8 w' => ∃ (x7_3 : Nat) (x8_3 : Int), v7 = .float .f64 x7_3 ∧ v8 = .int .i64 x8_3 ∧ Aside0 (impl_sine.l0 kq x4_2 (fv .mul .f64 x3_5 4618760256179416344) (fv .mul .f64 (fv .mul .f64 x3_5 4618760256179416344) (fv .mul .f64 x3_5 4618760256179416344)) x7_3 x8_3 = some r) ∧ Aside0 (kq ≤ kj5) ∧ Drawn0 w w')
       case atStart => exact ⟨(4607182418800017408), (8), rs_, rs_, H', ⟨Nat.le_refl _⟩, dr_⟩
       case round =>
        clear H'
        try clear c1
        try clear c2
        try clear p2
        try clear c4
        try clear c4b0
        try clear c5
        try clear c5b0
        try clear c5b1
        try clear c7
        try clear c7b0
        try clear c8
        try clear c8b0
        try clear c8b1
        try clear c9
        try clear c9b0
        try clear c9b1
        try clear c10
        try clear c10b0
        try clear c10b1
        try clear p2
        obtain ⟨x7_3, x8_3, rfl, rfl, HA, HK3, ⟨m3, rfl⟩⟩ := hrel
        cases gk with
        | zero => exact absurd HA.out (by simp [impl_sine.l0])
        | succ k3 =>
         have H := HA.out
         clear HA
         simp only [impl_sine.l0] at H
         by_cases c11 : x8_3 ≥ 1
         ·rw [if_pos c11] at H
          have c11b0 : decide (1 ≤ x8_3) = true := decide_eq_true c11
          clear c11
          by_cases c12 : fok .mul .f64 (fv .mul .f64 (fv .mul .f64 x3_5 4618760256179416344) (fv .mul .f64 x3_5 4618760256179416344)) x7_3 = true
          ·rw [if_pos c12] at H
           have c12b0 := eq_true c12
           have c12b1 : decide (fok .mul .f64 (fv .mul .f64 (fv .mul .f64 x3_5 4618760256179416344) (fv .mul .f64 x3_5 4618760256179416344)) x7_3 = true) = true := decide_eq_true c12
           clear c12
           by_cases c13 : fok .quo .f64 (fv .mul .f64 (fv .mul .f64 (fv .mul .f64 x3_5 4618760256179416344) (fv .mul .f64 x3_5 4618760256179416344)) x7_3) (floatOfInt .f64 (wrap64 ((wrap64 (2 * x8_3)) * (wrap64 ((wrap64 (2 * x8_3)) + 1))))) = true
           ·rw [if_pos c13] at H
            have c13b0 := eq_true c13
            have c13b1 : decide (fok .quo .f64 (fv .mul .f64 (fv .mul .f64 (fv .mul .f64 x3_5 4618760256179416344) (fv .mul .f64 x3_5 4618760256179416344)) x7_3) (floatOfInt .f64 (wrap64 ((wrap64 (2 * x8_3)) * (wrap64 ((wrap64 (2 * x8_3)) + 1))))) = true) = true := decide_eq_true c13
            by_cases c14 : fok .sub .f64 4607182418800017408 (fv .quo .f64 (fv .mul .f64 (fv .mul .f64 (fv .mul .f64 x3_5 4618760256179416344) (fv .mul .f64 x3_5 4618760256179416344)) x7_3) (floatOfInt .f64 (wrap64 ((wrap64 (2 * x8_3)) * (wrap64 ((wrap64 (2 * x8_3)) + 1)))))) = true
            ·rw [if_pos c14] at H
             have c14b0 := eq_true c14
             have c14b1 : decide (fok .sub .f64 4607182418800017408 (fv .quo .f64 (fv .mul .f64 (fv .mul .f64 (fv .mul .f64 x3_5 4618760256179416344) (fv .mul .f64 x3_5 4618760256179416344)) x7_3) (floatOfInt .f64 (wrap64 ((wrap64 (2 * x8_3)) * (wrap64 ((wrap64 (2 * x8_3)) + 1)))))) = true) = true := decide_eq_true c14
             have H' := Aside0.mk H
             clear H
             go_wp2
             go_roundg k3
             case measure => have := HJ2.out; have := HJ5.out; have := HK3.out; omega
             case rel => exact ⟨(fv .sub .f64 4607182418800017408 (fv .quo .f64 (fv .mul .f64 (fv .mul .f64 (fv .mul .f64 x3_5 4618760256179416344) (fv .mul .f64 x3_5 4618760256179416344)) x7_3) (floatOfInt .f64 (wrap64 ((wrap64 (2 * x8_3)) * (wrap64 ((wrap64 (2 * x8_3)) + 1))))))), (wrap64 (x8_3 - 1)), rs_, rs_, H', ⟨by have := HJ2.out; have := HJ5.out; have := HK3.out; omega⟩, dr_⟩
            ·rw [if_neg c14] at H
             exact absurd H (by simp)
           ·rw [if_neg c13] at H
            exact absurd H (by simp)
          ·rw [if_neg c12] at H
           exact absurd H (by simp)
         ·rw [if_neg c11] at H
          have c11b0 : decide (1 ≤ x8_3) = false := decide_eq_false c11
          clear c11
          by_cases c15 : x4_2 = true
          ·subst c15
           rw [if_pos rfl] at H; try dsimp only at H
           by_cases c16 : fok .mul .f64 (fv .mul .f64 x3_5 4618760256179416344) x7_3 = true
           ·rw [if_pos c16] at H
            have c16b0 := eq_true c16
            have c16b1 : decide (fok .mul .f64 (fv .mul .f64 x3_5 4618760256179416344) x7_3 = true) = true := decide_eq_true c16
            clear c16
            obtain rfl := Option.some.inj H
            go_wp2
            go_ret
            exact ⟨rs_, dr_⟩
           ·rw [if_neg c16] at H
            exact absurd H (by simp)
          ·replace c15 := Bool.eq_false_iff.mpr c15
           subst c15
           have H1 : (if fok .mul .f64 (fv .mul .f64 x3_5 4618760256179416344) x7_3 = true then (some (fv .mul .f64 (fv .mul .f64 x3_5 4618760256179416344) x7_3)) else (none)) = some r := by rw [if_neg (show ¬ (false = true) by decide)] at H; exact H
           clear H
           have H := H1
           clear H1
           by_cases c17 : fok .mul .f64 (fv .mul .f64 x3_5 4618760256179416344) x7_3 = true
           ·rw [if_pos c17] at H
            have c17b0 := eq_true c17
            have c17b1 : decide (fok .mul .f64 (fv .mul .f64 x3_5 4618760256179416344) x7_3 = true) = true := decide_eq_true c17
            clear c17
            obtain rfl := Option.some.inj H
            go_wp2
            go_ret
            exact ⟨rs_, dr_⟩
           ·rw [if_neg c17] at H
            exact absurd H (by simp)
      ·rw [if_neg c10] at H
       exact absurd H (by simp)
     ·rw [if_neg c9] at H
      exact absurd H (by simp)

end Go.Proofs.Ytcgpomicgbmdlaa.PFnCommon
namespace Go.Proofs.Ytcgpomicgbmdlaa.PFnCommon
open Go.RowKit Go.Proofs.YtcgpomicgbmdlaaW.PrintWords Go.Proofs.YtcgpomicgbmdlaaW.PrintLast Go.Proofs.YtcgpomicgbmdlaaW.PrintMore
attribute [local go_sem] max2_int min2_int max_two min_two max_three min_three max_four min_four   -- for this text's walks alone
set_option linter.unusedVariables false
set_option linter.unusedSimpArgs false

/-! ### impl_PhasorOf: function 144 -/
def impl_PhasorOf.l0 : Nat → Nat → Int → Option (Cx)
 | 0, _, _ => none
 | k + 1, x3, x4 => if (fge .f64 x3 4598175219545276416) = true then (if fok .sub .f64 x3 4598175219545276416 = true then (impl_PhasorOf.l0 k (fv .sub .f64 x3 4598175219545276416) (wrap64 (x4 + 1))) else (none)) else (if fok .sub .f64 4598175219545276416 x3 = true then ((impl_sine.f k (fv .sub .f64 4598175219545276416 x3)).bind fun t297 => ((impl_sine.f k x3).bind fun t298 => (if x4 = 1 then (if fok .sub .f64 0 t298 = true then (if cvok .f64 (fv .sub .f64 0 t298) .f32 = true then (if cvok .f64 t297 .f32 = true then (some (⟨cv .f64 (fv .sub .f64 0 t298) .f32, cv .f64 t297 .f32⟩ : Cx)) else (none)) else (none)) else (none)) else (if x4 = 2 then (if fok .sub .f64 0 t297 = true then (if fok .sub .f64 0 t298 = true then (if cvok .f64 (fv .sub .f64 0 t297) .f32 = true then (if cvok .f64 (fv .sub .f64 0 t298) .f32 = true then (some (⟨cv .f64 (fv .sub .f64 0 t297) .f32, cv .f64 (fv .sub .f64 0 t298) .f32⟩ : Cx)) else (none)) else (none)) else (none)) else (none)) else (if x4 = 3 then (if fok .sub .f64 0 t297 = true then (if cvok .f64 t298 .f32 = true then (if cvok .f64 (fv .sub .f64 0 t297) .f32 = true then (some (⟨cv .f64 t298 .f32, cv .f64 (fv .sub .f64 0 t297) .f32⟩ : Cx)) else (none)) else (none)) else (none)) else (if cvok .f64 t297 .f32 = true then (if cvok .f64 t298 .f32 = true then (some (⟨cv .f64 t297 .f32, cv .f64 t298 .f32⟩ : Cx)) else (none)) else (none))))))) else (none))
def impl_PhasorOf.f (k : Nat) (a0 : Nat) : Option (Cx) := if fok .sub .f64 a0 a0 = true then (if (fne .f64 (fv .sub .f64 a0 a0) 0) = true then ((impl_nan.f).bind fun t293 => ((impl_nan.f).bind fun t294 => (some (⟨t293, t294⟩ : Cx)))) else ((math_Abs.f a0).bind fun t295 => (if (fge .f64 t295 4841369599423283200) = true then (some (⟨1065353216, 0⟩ : Cx)) else ((impl_partOf.f a0).bind fun t296 => (impl_PhasorOf.l0 k t296 0))))) else (none)
theorem impl_PhasorOf.mono_l : ∀ k, (∀ y0 y1, LeO (impl_PhasorOf.l0 k y0 y1) (impl_PhasorOf.l0 (k + 1) y0 y1))
 | 0 => fun _ _ r h => by simp [impl_PhasorOf.l0] at h
 | k + 1 => by
  have ih0 := impl_PhasorOf.mono_l k
  ·intro y0 y1
   unfold impl_PhasorOf.l0
   repeat' first
   | (with_reducible exact ih0 _ _)
   | (with_reducible exact impl_sine.mono _ _)
   | (with_reducible exact LeO.refl _)
   | (with_reducible exact LeO.none _)
   | (with_reducible refine LeO.ite ?_ ?_)
   | (with_reducible refine LeO.bind ?_ (fun _ => ?_))
   | exact ih0 _ _
   | exact impl_sine.mono _ _
   | exact LeO.none _
   | refine LeO.ite ?_ ?_
   | refine LeO.bind ?_ (fun _ => ?_)
theorem impl_PhasorOf.mono : ∀ a0 k, LeO (impl_PhasorOf.f k a0) (impl_PhasorOf.f (k + 1) a0) := by
 intro a0 k
 have ih0 := impl_PhasorOf.mono_l k
 unfold impl_PhasorOf.f
 repeat' first
   | (with_reducible exact ih0 _ _)
   | (with_reducible exact impl_sine.mono _ _)
   | (with_reducible exact LeO.refl _)
   | (with_reducible exact LeO.none _)
   | (with_reducible refine LeO.ite ?_ ?_)
   | (with_reducible refine LeO.bind ?_ (fun _ => ?_))
   | exact ih0 _ _
   | exact impl_sine.mono _ _
   | exact LeO.none _
   | refine LeO.ite ?_ ?_
   | refine LeO.bind ?_ (fun _ => ?_)
set_option maxHeartbeats 8000000 in
set_option maxRecDepth 100000 in
theorem impl_PhasorOf.calls (k : Nat) (a0 : Nat) (r : Cx) (w : World) (h : impl_PhasorOf.f k a0 = some r) :
  Calls Try.prog 144 #[.float .f64 a0] w fun e w' => e = .returned (.complex .f32 r.re r.im) ∧ Below w.heap.size w w' := by
 have HB := Aside0.mk (Below.refl w.heap.size w)
 have H : (if fok .sub .f64 a0 a0 = true then (if (fne .f64 (fv .sub .f64 a0 a0) 0) = true then ((impl_nan.f).bind fun t293 => ((impl_nan.f).bind fun t294 => (some (⟨t293, t294⟩ : Cx)))) else ((math_Abs.f a0).bind fun t295 => (if (fge .f64 t295 4841369599423283200) = true then (some (⟨1065353216, 0⟩ : Cx)) else ((impl_partOf.f a0).bind fun t296 => (impl_PhasorOf.l0 k t296 0))))) else (none)) = some r := h
 clear h
 by_cases c2 : fok .sub .f64 a0 a0 = true
 ·rw [if_pos c2] at H
  have c2b0 := eq_true c2
  have c2b1 : decide (fok .sub .f64 a0 a0 = true) = true := decide_eq_true c2
  clear c2
  by_cases c3 : (fne .f64 (fv .sub .f64 a0 a0) 0) = true
  ·rw [if_pos c3] at H
   have c3b0 : (fne .f64 (fv .sub .f64 a0 a0) 0) = true := c3
   clear c3
   replace H := Option.bind_eq_some_iff.mp H
   obtain ⟨t293, A40, H⟩ := H
   try dsimp only at H
   have A4 := Aside0.mk A40
   clear A40
   replace H := Option.bind_eq_some_iff.mp H
   obtain ⟨t294, A50, H⟩ := H
   try dsimp only at H
   have A5 := Aside0.mk A50
   clear A50
   obtain rfl := Option.some.inj H
   go_enter Try.func144, Try.ntmps144
   go_wp2_with (first | ((with_reducible refine gate_callee (f := 161) rfl ?_); refine gx_ (some 12) Try.func161 #[] ?_; (with_reducible refine (impl_nan.calls  t293 _ A4.out).mono ?_); rintro e w' ⟨rfl, ⟨nd, rfl⟩⟩; refine ⟨_, rfl, ?_⟩) | ((with_reducible refine gate_callee (f := 161) rfl ?_); refine gx_ (some 13) Try.func161 #[] ?_; (with_reducible refine (impl_nan.calls  t294 _ A5.out).mono ?_); rintro e w' ⟨rfl, ⟨nd, rfl⟩⟩; refine ⟨_, rfl, ?_⟩))
   go_ret
   exact ⟨re_, tb⟩
  ·rw [if_neg c3] at H
   have c3b0 : (fne .f64 (fv .sub .f64 a0 a0) 0) = false := by simpa using c3
   clear c3
   replace H := Option.bind_eq_some_iff.mp H
   obtain ⟨t295, A60, H⟩ := H
   try dsimp only at H
   have A6 := Aside0.mk A60
   clear A60
   by_cases c7 : (fge .f64 t295 4841369599423283200) = true
   ·rw [if_pos c7] at H
    have c7b0 : (fge .f64 t295 4841369599423283200) = true := c7
    clear c7
    obtain rfl := Option.some.inj H
    go_enter Try.func144, Try.ntmps144
    go_wp2_with (first | ((with_reducible refine gate_callee (f := 162) rfl ?_); refine gx_ (some 17) Try.func162 #[.float .f64 a0] ?_; (with_reducible refine (math_Abs.calls a0 t295 _ A6.out).mono ?_); rintro e w' ⟨rfl, ⟨nd, rfl⟩⟩; refine ⟨_, rfl, ?_⟩))
    go_ret
    exact ⟨re_, tb⟩
   ·rw [if_neg c7] at H
    have c7b0 : (fge .f64 t295 4841369599423283200) = false := by simpa using c7
    clear c7
    replace H := Option.bind_eq_some_iff.mp H
    obtain ⟨t296, A80, H⟩ := H
    try dsimp only at H
    have A8 := Aside0.mk A80
    clear A80
    have H' := Aside0.mk H
    clear H
    go_enter Try.func144, Try.ntmps144
    go_wp2_with (first | ((with_reducible refine gate_callee (f := 162) rfl ?_); refine gx_ (some 17) Try.func162 #[.float .f64 a0] ?_; (with_reducible refine (math_Abs.calls a0 t295 _ A6.out).mono ?_); rintro e w' ⟨rfl, ⟨nd, rfl⟩⟩; refine ⟨_, rfl, ?_⟩) | ((with_reducible refine gate_callee (f := 163) rfl ?_); refine gx_ (some 20) Try.func163 #[.float .f64 a0] ?_; (with_reducible refine (impl_partOf.calls a0 t296 _ A8.out).mono ?_); rintro e w' ⟨rfl, ⟨nd, rfl⟩⟩; refine ⟨_, rfl, ?_⟩))
    go_loopg [3, 4] k (fun kq v3 v4 w' => ∃ (x3_1 : Nat) (x4_1 : Int), v3 = .float .f64 x3_1 ∧ v4 = .int .i64 x4_1 ∧ Aside0 (impl_PhasorOf.l0 kq x3_1 x4_1 = some r) ∧ Aside0 (kq ≤ k) ∧ Aside0 (Below w.heap.size w w'))
    case atStart => exact ⟨(t296), (0), rs_, rs_, H', ⟨Nat.le_refl _⟩, ⟨tb⟩⟩
    case round =>
     clear H'
     try clear c1
     try clear c2
     try clear c2b0
     try clear c2b1
     try clear p2
     try clear c3
     try clear c3b0
     try clear c7
     try clear c7b0
     obtain ⟨x3_1, x4_1, rfl, rfl, HA, HK1, HB⟩ := hrel
     cases gk with
     | zero => exact absurd HA.out (by simp [impl_PhasorOf.l0])
     | succ k1 =>
      have H := HA.out
      clear HA
      simp only [impl_PhasorOf.l0] at H
      by_cases c9 : (fge .f64 x3_1 4598175219545276416) = true
      ·rw [if_pos c9] at H
       have c9b0 : (fge .f64 x3_1 4598175219545276416) = true := c9
       clear c9
       by_cases c10 : fok .sub .f64 x3_1 4598175219545276416 = true
       ·rw [if_pos c10] at H
        have c10b0 := eq_true c10
        have c10b1 : decide (fok .sub .f64 x3_1 4598175219545276416 = true) = true := decide_eq_true c10
        clear c10
        have H' := Aside0.mk H
        clear H
        go_wp2
        go_roundg k1
        case measure => have := HK1.out; omega
        case rel => exact ⟨(fv .sub .f64 x3_1 4598175219545276416), (wrap64 (x4_1 + 1)), rs_, rs_, H', ⟨by have := HK1.out; omega⟩, ⟨tb⟩⟩
       ·rw [if_neg c10] at H
        exact absurd H (by simp)
      ·rw [if_neg c9] at H
       have c9b0 : (fge .f64 x3_1 4598175219545276416) = false := by simpa using c9
       clear c9
       by_cases c11 : fok .sub .f64 4598175219545276416 x3_1 = true
       ·rw [if_pos c11] at H
        have c11b0 := eq_true c11
        have c11b1 : decide (fok .sub .f64 4598175219545276416 x3_1 = true) = true := decide_eq_true c11
        clear c11
        replace H := Option.bind_eq_some_iff.mp H
        obtain ⟨t297, A120, H⟩ := H
        try dsimp only at H
        have A12 := Aside0.mk A120
        clear A120
        replace H := Option.bind_eq_some_iff.mp H
        obtain ⟨t298, A130, H⟩ := H
        try dsimp only at H
        have A13 := Aside0.mk A130
        clear A130
        by_cases c14 : x4_1 = 1
        ·rw [if_pos c14] at H
         have c14b0 : (x4_1 == 1) = true := beq_iff_eq.mpr c14
         have c14b1 : (x4_1 != 1) = false := bne_eq_false_iff_eq.mpr c14
         clear c14
         by_cases c15 : fok .sub .f64 0 t298 = true
         ·rw [if_pos c15] at H
          have c15b0 := eq_true c15
          have c15b1 : decide (fok .sub .f64 0 t298 = true) = true := decide_eq_true c15
          clear c15
          by_cases c16 : cvok .f64 (fv .sub .f64 0 t298) .f32 = true
          ·rw [if_pos c16] at H
           have c16b0 := eq_true c16
           have c16b1 : decide (cvok .f64 (fv .sub .f64 0 t298) .f32 = true) = true := decide_eq_true c16
           clear c16
           by_cases c17 : cvok .f64 t297 .f32 = true
           ·rw [if_pos c17] at H
            have c17b0 := eq_true c17
            have c17b1 : decide (cvok .f64 t297 .f32 = true) = true := decide_eq_true c17
            clear c17
            obtain rfl := Option.some.inj H
            go_wp2_with (first | ((with_reducible refine gate_callee (f := 164) rfl ?_); refine gx_ (some 29) Try.func164 #[.float .f64 (fv .sub .f64 4598175219545276416 x3_1)] ?_; (with_reducible refine (impl_sine.calls k1 (fv .sub .f64 4598175219545276416 x3_1) t297 _ A12.out).mono ?_); rintro e w' ⟨rfl, ⟨nd, rfl⟩⟩; refine ⟨_, rfl, ?_⟩) | ((with_reducible refine gate_callee (f := 164) rfl ?_); refine gx_ (some 31) Try.func164 #[.float .f64 x3_1] ?_; (with_reducible refine (impl_sine.calls k1 x3_1 t298 _ A13.out).mono ?_); rintro e w' ⟨rfl, ⟨nd, rfl⟩⟩; refine ⟨_, rfl, ?_⟩))
            go_ret
            exact ⟨re_, tb⟩
           ·rw [if_neg c17] at H
            exact absurd H (by simp)
          ·rw [if_neg c16] at H
           exact absurd H (by simp)
         ·rw [if_neg c15] at H
          exact absurd H (by simp)
        ·rw [if_neg c14] at H
         have c14b0 : (x4_1 == 1) = false := beq_eq_false_iff_ne.mpr c14
         have c14b1 : (x4_1 != 1) = true := bne_iff_ne.mpr c14
         by_cases c18 : x4_1 = 2
         ·rw [if_pos c18] at H
          have c18b0 : (x4_1 == 2) = true := beq_iff_eq.mpr c18
          have c18b1 : (x4_1 != 2) = false := bne_eq_false_iff_eq.mpr c18
          clear c18
          by_cases c19 : fok .sub .f64 0 t297 = true
          ·rw [if_pos c19] at H
           have c19b0 := eq_true c19
           have c19b1 : decide (fok .sub .f64 0 t297 = true) = true := decide_eq_true c19
           clear c19
           by_cases c20 : fok .sub .f64 0 t298 = true
           ·rw [if_pos c20] at H
            have c20b0 := eq_true c20
            have c20b1 : decide (fok .sub .f64 0 t298 = true) = true := decide_eq_true c20
            clear c20
            by_cases c21 : cvok .f64 (fv .sub .f64 0 t297) .f32 = true
            ·rw [if_pos c21] at H
             have c21b0 := eq_true c21
             have c21b1 : decide (cvok .f64 (fv .sub .f64 0 t297) .f32 = true) = true := decide_eq_true c21
             clear c21
             by_cases c22 : cvok .f64 (fv .sub .f64 0 t298) .f32 = true
             ·rw [if_pos c22] at H
              have c22b0 := eq_true c22
              have c22b1 : decide (cvok .f64 (fv .sub .f64 0 t298) .f32 = true) = true := decide_eq_true c22
              clear c22
              obtain rfl := Option.some.inj H
              go_wp2_with (first | ((with_reducible refine gate_callee (f := 164) rfl ?_); refine gx_ (some 29) Try.func164 #[.float .f64 (fv .sub .f64 4598175219545276416 x3_1)] ?_; (with_reducible refine (impl_sine.calls k1 (fv .sub .f64 4598175219545276416 x3_1) t297 _ A12.out).mono ?_); rintro e w' ⟨rfl, ⟨nd, rfl⟩⟩; refine ⟨_, rfl, ?_⟩) | ((with_reducible refine gate_callee (f := 164) rfl ?_); refine gx_ (some 31) Try.func164 #[.float .f64 x3_1] ?_; (with_reducible refine (impl_sine.calls k1 x3_1 t298 _ A13.out).mono ?_); rintro e w' ⟨rfl, ⟨nd, rfl⟩⟩; refine ⟨_, rfl, ?_⟩))
              go_ret
              exact ⟨re_, tb⟩
             ·rw [if_neg c22] at H
              exact absurd H (by simp)
            ·rw [if_neg c21] at H
             exact absurd H (by simp)
           ·rw [if_neg c20] at H
            exact absurd H (by simp)
          ·rw [if_neg c19] at H
           exact absurd H (by simp)
         ·rw [if_neg c18] at H
          have c18b0 : (x4_1 == 2) = false := beq_eq_false_iff_ne.mpr c18
          have c18b1 : (x4_1 != 2) = true := bne_iff_ne.mpr c18
          by_cases c23 : x4_1 = 3
          ·rw [if_pos c23] at H
           have c23b0 : (x4_1 == 3) = true := beq_iff_eq.mpr c23
           have c23b1 : (x4_1 != 3) = false := bne_eq_false_iff_eq.mpr c23
           clear c23
           by_cases c24 : fok .sub .f64 0 t297 = true
           ·rw [if_pos c24] at H
            have c24b0 := eq_true c24
            have c24b1 : decide (fok .sub .f64 0 t297 = true) = true := decide_eq_true c24
            clear c24
            by_cases c25 : cvok .f64 t298 .f32 = true
            ·rw [if_pos c25] at H
             have c25b0 := eq_true c25
             have c25b1 : decide (cvok .f64 t298 .f32 = true) = true := decide_eq_true c25
             clear c25
             by_cases c26 : cvok .f64 (fv .sub .f64 0 t297) .f32 = true
             ·rw [if_pos c26] at H
              have c26b0 := eq_true c26
              have c26b1 : decide (cvok .f64 (fv .sub .f64 0 t297) .f32 = true) = true := decide_eq_true c26
              clear c26
              obtain rfl := Option.some.inj H
              go_wp2_with (first | ((with_reducible refine gate_callee (f := 164) rfl ?_); refine gx_ (some 29) Try.func164 #[.float .f64 (fv .sub .f64 4598175219545276416 x3_1)] ?_; (with_reducible refine (impl_sine.calls k1 (fv .sub .f64 4598175219545276416 x3_1) t297 _ A12.out).mono ?_); rintro e w' ⟨rfl, ⟨nd, rfl⟩⟩; refine ⟨_, rfl, ?_⟩) | ((with_reducible refine gate_callee (f := 164) rfl ?_); refine gx_ (some 31) Try.func164 #[.float .f64 x3_1] ?_; (with_reducible refine (impl_sine.calls k1 x3_1 t298 _ A13.out).mono ?_); rintro e w' ⟨rfl, ⟨nd, rfl⟩⟩; refine ⟨_, rfl, ?_⟩))
              go_ret
              exact ⟨re_, tb⟩
             ·rw [if_neg c26] at H
              exact absurd H (by simp)
            ·rw [if_neg c25] at H
             exact absurd H (by simp)
           ·rw [if_neg c24] at H
            exact absurd H (by simp)
          ·rw [if_neg c23] at H
           have c23b0 : (x4_1 == 3) = false := beq_eq_false_iff_ne.mpr c23
           have c23b1 : (x4_1 != 3) = true := bne_iff_ne.mpr c23
           by_cases c27 : cvok .f64 t297 .f32 = true
           ·rw [if_pos c27] at H
            have c27b0 := eq_true c27
            have c27b1 : decide (cvok .f64 t297 .f32 = true) = true := decide_eq_true c27
            clear c27
            by_cases c28 : cvok .f64 t298 .f32 = true
            ·rw [if_pos c28] at H
             have c28b0 := eq_true c28
             have c28b1 : decide (cvok .f64 t298 .f32 = true) = true := decide_eq_true c28
             clear c28
             obtain rfl := Option.some.inj H
             go_wp2_with (first | ((with_reducible refine gate_callee (f := 164) rfl ?_); refine gx_ (some 29) Try.func164 #[.float .f64 (fv .sub .f64 4598175219545276416 x3_1)] ?_; (with_reducible refine (impl_sine.calls k1 (fv .sub .f64 4598175219545276416 x3_1) t297 _ A12.out).mono ?_); rintro e w' ⟨rfl, ⟨nd, rfl⟩⟩; refine ⟨_, rfl, ?_⟩) | ((with_reducible refine gate_callee (f := 164) rfl ?_); refine gx_ (some 31) Try.func164 #[.float .f64 x3_1] ?_; (with_reducible refine (impl_sine.calls k1 x3_1 t298 _ A13.out).mono ?_); rintro e w' ⟨rfl, ⟨nd, rfl⟩⟩; refine ⟨_, rfl, ?_⟩))
             go_ret
             exact ⟨re_, tb⟩
            ·rw [if_neg c28] at H
             exact absurd H (by simp)
           ·rw [if_neg c27] at H
            exact absurd H (by simp)
       ·rw [if_neg c11] at H
        exact absurd H (by simp)
 ·rw [if_neg c2] at H
  exact absurd H (by simp)

end Go.Proofs.Ytcgpomicgbmdlaa.PFnCommon
namespace Go.Proofs.Ytcgpomicgbmdlaa.PFnCommon
open Go.RowKit Go.Proofs.YtcgpomicgbmdlaaW.PrintWords Go.Proofs.YtcgpomicgbmdlaaW.PrintLast Go.Proofs.YtcgpomicgbmdlaaW.PrintMore
attribute [local go_sem] max2_int min2_int max_two min_two max_three min_three max_four min_four   -- for this text's walks alone
set_option linter.unusedVariables false
set_option linter.unusedSimpArgs false

/-! ### impl_turns: function 104 -/
def impl_turns.f (k : Nat)  : Option (Cx × Cx) := (impl_PhasorOf.f k 4599676419421066581).bind fun t299 => ((impl_PhasorOf.f k 13823048456275842389).bind fun t300 => (some (t299, t300)))
theorem impl_turns.mono : ∀ k, LeO (impl_turns.f k ) (impl_turns.f (k + 1) ) := by
 intro  k
 unfold impl_turns.f
 repeat' first
   | (with_reducible exact impl_PhasorOf.mono _ _)
   | (with_reducible exact LeO.refl _)
   | (with_reducible exact LeO.none _)
   | (with_reducible refine LeO.ite ?_ ?_)
   | (with_reducible refine LeO.bind ?_ (fun _ => ?_))
   | exact impl_PhasorOf.mono _ _
   | exact LeO.none _
   | refine LeO.ite ?_ ?_
   | refine LeO.bind ?_ (fun _ => ?_)
set_option maxHeartbeats 8000000 in
set_option maxRecDepth 100000 in
theorem impl_turns.calls (k : Nat)  (r1 : Cx) (r2 : Cx) (w : World) (h : impl_turns.f k  = some (r1, r2)) :
  Calls Try.prog 104 #[] w fun e w' => e = .returned (.tuple #[.complex .f32 r1.re r1.im, .complex .f32 r2.re r2.im]) ∧ Below w.heap.size w w' := by
 have HB := Aside0.mk (Below.refl w.heap.size w)
 have H : ((impl_PhasorOf.f k 4599676419421066581).bind fun t299 => ((impl_PhasorOf.f k 13823048456275842389).bind fun t300 => (some (t299, t300)))) = some (r1, r2) := h
 clear h
 replace H := Option.bind_eq_some_iff.mp H
 obtain ⟨t299, A10, H⟩ := H
 try dsimp only at H
 have A1 := Aside0.mk A10
 clear A10
 replace H := Option.bind_eq_some_iff.mp H
 obtain ⟨t300, A20, H⟩ := H
 try dsimp only at H
 have A2 := Aside0.mk A20
 clear A20
 simp only [Option.some.injEq, Prod.mk.injEq] at H
 obtain ⟨rfl, rfl⟩ := H
 go_enter Try.func104, Try.ntmps104
 go_wp2_with (first | ((with_reducible refine gate_callee (f := 144) rfl ?_); refine gx_ (some 2) Try.func144 #[.float .f64 4599676419421066581] ?_; (with_reducible refine (impl_PhasorOf.calls k 4599676419421066581 t299 _ A1.out).mono ?_); rintro e w3 ⟨rfl, hb⟩; refine ⟨_, rfl, ?_⟩; have n0_ := Aside0.mk (below_step tb hb); clear HB; have HB := n0_; clear n0_; (try clear hb); (try clear hb2); (try clear hk); (try clear hi)) | ((with_reducible refine gate_callee (f := 144) rfl ?_); refine gx_ (some 3) Try.func144 #[.float .f64 13823048456275842389] ?_; (with_reducible refine (impl_PhasorOf.calls k 13823048456275842389 t300 _ A2.out).mono ?_); rintro e w4 ⟨rfl, hb⟩; refine ⟨_, rfl, ?_⟩; have n0_ := Aside0.mk (below_step tb hb); clear HB; have HB := n0_; clear n0_; (try clear hb); (try clear hb2); (try clear hk); (try clear hi)))
 go_ret2
 exact ⟨re_, tb⟩

end Go.Proofs.Ytcgpomicgbmdlaa.PFnCommon
