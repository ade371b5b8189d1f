-- Words and walks of the print, as far as this claim uses them (laid by wip/mkclaim.py of this session). Lean checks it.
import Derived.Test.YtcgpomicgbmdlaaFl
import Derived.Test.YtcgpomicgbmdlaaPFnBanksm0
import Derived.Test.YtcgpomicgbmdlaaPFnBanksm1
import Derived.Test.YtcgpomicgbmdlaaPFnBanksm2
import Derived.Test.YtcgpomicgbmdlaaPFnBanksm3
import Derived.Test.YtcgpomicgbmdlaaPFnBanksm8
namespace Go.Proofs.Ytcgpomicgbmdlaa.PFnBanks
open Go.RowKit Go.Proofs.YtcgpomicgbmdlaaW.PrintWords Go.Proofs.YtcgpomicgbmdlaaW.PrintLast Go.Proofs.YtcgpomicgbmdlaaW.PrintMore
attribute [local go_sem] max2_int min2_int max_two min_two max_three min_three max_four min_four   -- for this text's walks alone
set_option linter.unusedVariables false
set_option linter.unusedSimpArgs false

/-! ### laws_FnBanks: function 5 -/
mutual
def laws_FnBanks.j0 : Nat → Int → List Nat → Int → Bool → Cx → Cx → Cx → List (S66) → Option (Bool)
 | 0, _, _, _, _, _, _, _, _ => none
 | k + 1, x6, x7, x8, x66, x507000, x507001, x507002, x507003 => if x66 = true then (some false) else (laws_FnBanks.l0 k x6 x7 x8 (([] : List Nat)) (x7.length : Int) 0 x507000 x507001 x507002 x507003)
def laws_FnBanks.l0 : Nat → Int → List Nat → Int → List Nat → Int → Int → Cx → Cx → Cx → List (S66) → Option (Bool)
 | 0, _, _, _, _, _, _, _, _, _, _ => none
 | k + 1, x6, x7, x8, x10, x69, x70, x507000, x507001, x507002, x507003 => if x70 < x69 then (if 0 ≤ x70 then (if x70 < (x7.length : Int) then ((impl_AddBank.f k x507000 x507001 x507002 x507003 x6 (rdOf (0 : Nat) x7 x70)).bind fun bt520 => (if bt520.2.2.2.2 = true then ((impl_ValidFeeder.f k bt520.1 bt520.2.1 bt520.2.2.1 bt520.2.2.2.1).bind fun t528 => (if t528 = true then (if (bt520.2.2.2.1.length : Int) = (wrap64 ((x507003.length : Int) + 1)) then (if 0 ≤ (x507003.length : Int) then (if (x507003.length : Int) < (bt520.2.2.2.1.length : Int) then (laws_FnBanks.j2 k x6 x7 x8 x10 x69 x70 (((rd_T66 bt520.2.2.2.1 (x507003.length : Int)).f0) != x6) x507000 x507001 x507002 x507003 bt520.1 bt520.2.1 bt520.2.2.1 bt520.2.2.2.1) else (none)) else (none)) else (laws_FnBanks.j2 k x6 x7 x8 x10 x69 x70 true x507000 x507001 x507002 x507003 bt520.1 bt520.2.1 bt520.2.2.1 bt520.2.2.2.1)) else (laws_FnBanks.j2 k x6 x7 x8 x10 x69 x70 true x507000 x507001 x507002 x507003 bt520.1 bt520.2.1 bt520.2.2.1 bt520.2.2.2.1))) else (laws_FnBanks.j2 k x6 x7 x8 x10 x69 x70 true x507000 x507001 x507002 x507003 bt520.1 bt520.2.1 bt520.2.2.1 bt520.2.2.2.1))) else (none)) else (none)) else (laws_FnBanks.l1 k x8 x10 (x10.length : Int) 0)
def laws_FnBanks.j2 : Nat → Int → List Nat → Int → List Nat → Int → Int → Bool → Cx → Cx → Cx → List (S66) → Cx → Cx → Cx → List (S66) → Option (Bool)
 | 0, _, _, _, _, _, _, _, _, _, _, _, _, _, _, _ => none
 | k + 1, x6, x7, x8, x10, x69, x70, x111, x507000, x507001, x507002, x507003, x528000, x528001, x528002, x528003 => if x111 = true then (some false) else ((impl_FlatVoltages.f k x528000 x528001 x528002 x528003).bind fun bt530 => ((impl_RunSweeps.f k x528000 x528001 x528002 x528003 bt530.1 3).bind fun bt534 => ((impl_LowestBus.f k x528000 x528001 x528002 x528003 bt534.1 bt534.2.1 bt534.2.2.1 bt534.2.2.2.1).bind fun bt544 => (if bt530.2 = true then (if bt534.2.2.2.2 = true then (if bt544.2.2 = true then (if x10.length < 35184372088832 then (laws_FnBanks.l0 k x6 x7 x8 (x10 ++ [bt544.2.1]) x69 (wrap64 (x70 + 1)) x507000 x507001 x507002 x507003) else (none)) else (some false)) else (some false)) else (some false)))))
def laws_FnBanks.l1 : Nat → Int → List Nat → Int → Int → Option (Bool)
 | 0, _, _, _, _ => none
 | k + 1, x8, x10, x146, x147 => if x147 < x146 then (if 0 ≤ x147 then (if x147 < (x10.length : Int) then (if 0 ≤ x8 then (if x8 < (x10.length : Int) then (if (fgt .f32 (rdOf (0 : Nat) x10 x147) (rdOf (0 : Nat) x10 x8)) = true then (some false) else (if x147 < x8 then (if (feq .f32 (rdOf (0 : Nat) x10 x147) (rdOf (0 : Nat) x10 x8)) = true then (some false) else (laws_FnBanks.l1 k x8 x10 x146 (wrap64 (x147 + 1)))) else (laws_FnBanks.l1 k x8 x10 x146 (wrap64 (x147 + 1))))) else (none)) else (none)) else (none)) else (none)) else (some true)
end
def laws_FnBanks.f (k : Nat) (l0 : List Int) (l1 : List Int) : Option (Bool) := (laws_b10Long.f l0 l1).bind fun t499 => (if t499 = true then (some true) else ((spec_B10Mild.f k l0).bind fun bt500 => ((laws_b10At.f l1 0 (bt500.2.2.2.length : Int)).bind fun t507 => ((laws_b10At.f l1 1 9).bind fun t508 => (if fok .quo .f32 (floatOfInt .f32 (wrap64 (1 + t508))) 1115684864 = true then ((laws_b10At.f l1 2 9).bind fun t509 => (if fok .quo .f32 (floatOfInt .f32 (wrap64 (1 + t509))) 1107296256 = true then ((laws_b10At.f l1 3 9).bind fun t510 => (if fok .quo .f32 (floatOfInt .f32 (wrap64 (1 + t510))) 1098907648 = true then ((some (([fv .quo .f32 (floatOfInt .f32 (wrap64 (1 + t508))) 1115684864, fv .quo .f32 (floatOfInt .f32 (wrap64 (1 + t509))) 1107296256, fv .quo .f32 (floatOfInt .f32 (wrap64 (1 + t510))) 1098907648] : List Nat) : List Nat)).bind fun y511 => ((impl_BestBank.f k bt500.1 bt500.2.1 bt500.2.2.1 bt500.2.2.2 t507 y511 3).bind fun bt514 => (if bt514.2 = true then (if bt514.1 < 0 then (laws_FnBanks.j0 k t507 y511 bt514.1 true bt500.1 bt500.2.1 bt500.2.2.1 bt500.2.2.2) else (laws_FnBanks.j0 k t507 y511 bt514.1 (decide (bt514.1 ≥ (y511.length : Int))) bt500.1 bt500.2.1 bt500.2.2.1 bt500.2.2.2)) else (laws_FnBanks.j0 k t507 y511 bt514.1 true bt500.1 bt500.2.1 bt500.2.2.1 bt500.2.2.2)))) else (none))) else (none))) else (none))))))
theorem laws_FnBanks.mono_l : ∀ k, (∀ y0 y1 y2 y3 y4 y5 y6 y7, LeO (laws_FnBanks.j0 k y0 y1 y2 y3 y4 y5 y6 y7) (laws_FnBanks.j0 (k + 1) y0 y1 y2 y3 y4 y5 y6 y7)) ∧ (∀ y0 y1 y2 y3 y4 y5 y6 y7 y8 y9, LeO (laws_FnBanks.l0 k y0 y1 y2 y3 y4 y5 y6 y7 y8 y9) (laws_FnBanks.l0 (k + 1) y0 y1 y2 y3 y4 y5 y6 y7 y8 y9)) ∧ (∀ y0 y1 y2 y3 y4 y5 y6 y7 y8 y9 y10 y11 y12 y13 y14, LeO (laws_FnBanks.j2 k y0 y1 y2 y3 y4 y5 y6 y7 y8 y9 y10 y11 y12 y13 y14) (laws_FnBanks.j2 (k + 1) y0 y1 y2 y3 y4 y5 y6 y7 y8 y9 y10 y11 y12 y13 y14)) ∧ (∀ y0 y1 y2 y3, LeO (laws_FnBanks.l1 k y0 y1 y2 y3) (laws_FnBanks.l1 (k + 1) y0 y1 y2 y3))
 | 0 => ⟨fun _ _ _ _ _ _ _ _ r h => by simp [laws_FnBanks.j0] at h, fun _ _ _ _ _ _ _ _ _ _ r h => by simp [laws_FnBanks.l0] at h, fun _ _ _ _ _ _ _ _ _ _ _ _ _ _ _ r h => by simp [laws_FnBanks.j2] at h, fun _ _ _ _ r h => by simp [laws_FnBanks.l1] at h⟩
 | k + 1 => by
  obtain ⟨ih0, ih1, ih2, ih3⟩ := laws_FnBanks.mono_l k
  refine ⟨?_, ?_, ?_, ?_⟩
  ·intro y0 y1 y2 y3 y4 y5 y6 y7
   unfold laws_FnBanks.j0
   repeat' first
   | (with_reducible exact ih0 _ _ _ _ _ _ _ _)
   | (with_reducible exact ih1 _ _ _ _ _ _ _ _ _ _)
   | (with_reducible exact ih2 _ _ _ _ _ _ _ _ _ _ _ _ _ _ _)
   | (with_reducible exact ih3 _ _ _ _)
   | (with_reducible exact impl_AddBank.mono _ _ _ _ _ _ _)
   | (with_reducible exact impl_BestBank.mono _ _ _ _ _ _ _ _)
   | (with_reducible exact impl_FlatVoltages.mono _ _ _ _ _)
   | (with_reducible exact impl_LowestBus.mono _ _ _ _ _ _ _ _ _)
   | (with_reducible exact impl_RunSweeps.mono _ _ _ _ _ _ _)
   | (with_reducible exact impl_ValidFeeder.mono _ _ _ _ _)
   | (with_reducible exact spec_B10Mild.mono _ _)
   | (with_reducible exact LeO.refl _)
   | (with_reducible exact LeO.none _)
   | (with_reducible refine LeO.ite ?_ ?_)
   | (with_reducible refine LeO.bind ?_ (fun _ => ?_))
   | exact ih0 _ _ _ _ _ _ _ _
   | exact ih1 _ _ _ _ _ _ _ _ _ _
   | exact ih2 _ _ _ _ _ _ _ _ _ _ _ _ _ _ _
   | exact ih3 _ _ _ _
   | exact impl_AddBank.mono _ _ _ _ _ _ _
   | exact impl_BestBank.mono _ _ _ _ _ _ _ _
   | exact impl_FlatVoltages.mono _ _ _ _ _
   | exact impl_LowestBus.mono _ _ _ _ _ _ _ _ _
   | exact impl_RunSweeps.mono _ _ _ _ _ _ _
   | exact impl_ValidFeeder.mono _ _ _ _ _
   | exact spec_B10Mild.mono _ _
   | exact LeO.none _
   | refine LeO.ite ?_ ?_
   | refine LeO.bind ?_ (fun _ => ?_)
  ·intro y0 y1 y2 y3 y4 y5 y6 y7 y8 y9
   unfold laws_FnBanks.l0
   repeat' first
   | (with_reducible exact ih0 _ _ _ _ _ _ _ _)
   | (with_reducible exact ih1 _ _ _ _ _ _ _ _ _ _)
   | (with_reducible exact ih2 _ _ _ _ _ _ _ _ _ _ _ _ _ _ _)
   | (with_reducible exact ih3 _ _ _ _)
   | (with_reducible exact impl_AddBank.mono _ _ _ _ _ _ _)
   | (with_reducible exact impl_BestBank.mono _ _ _ _ _ _ _ _)
   | (with_reducible exact impl_FlatVoltages.mono _ _ _ _ _)
   | (with_reducible exact impl_LowestBus.mono _ _ _ _ _ _ _ _ _)
   | (with_reducible exact impl_RunSweeps.mono _ _ _ _ _ _ _)
   | (with_reducible exact impl_ValidFeeder.mono _ _ _ _ _)
   | (with_reducible exact spec_B10Mild.mono _ _)
   | (with_reducible exact LeO.refl _)
   | (with_reducible exact LeO.none _)
   | (with_reducible refine LeO.ite ?_ ?_)
   | (with_reducible refine LeO.bind ?_ (fun _ => ?_))
   | exact ih0 _ _ _ _ _ _ _ _
   | exact ih1 _ _ _ _ _ _ _ _ _ _
   | exact ih2 _ _ _ _ _ _ _ _ _ _ _ _ _ _ _
   | exact ih3 _ _ _ _
   | exact impl_AddBank.mono _ _ _ _ _ _ _
   | exact impl_BestBank.mono _ _ _ _ _ _ _ _
   | exact impl_FlatVoltages.mono _ _ _ _ _
   | exact impl_LowestBus.mono _ _ _ _ _ _ _ _ _
   | exact impl_RunSweeps.mono _ _ _ _ _ _ _
   | exact impl_ValidFeeder.mono _ _ _ _ _
   | exact spec_B10Mild.mono _ _
   | exact LeO.none _
   | refine LeO.ite ?_ ?_
   | refine LeO.bind ?_ (fun _ => ?_)
  ·intro y0 y1 y2 y3 y4 y5 y6 y7 y8 y9 y10 y11 y12 y13 y14
   unfold laws_FnBanks.j2
   repeat' first
   | (with_reducible exact ih0 _ _ _ _ _ _ _ _)
   | (with_reducible exact ih1 _ _ _ _ _ _ _ _ _ _)
   | (with_reducible exact ih2 _ _ _ _ _ _ _ _ _ _ _ _ _ _ _)
   | (with_reducible exact ih3 _ _ _ _)
   | (with_reducible exact impl_AddBank.mono _ _ _ _ _ _ _)
   | (with_reducible exact impl_BestBank.mono _ _ _ _ _ _ _ _)
   | (with_reducible exact impl_FlatVoltages.mono _ _ _ _ _)
   | (with_reducible exact impl_LowestBus.mono _ _ _ _ _ _ _ _ _)
   | (with_reducible exact impl_RunSweeps.mono _ _ _ _ _ _ _)
   | (with_reducible exact impl_ValidFeeder.mono _ _ _ _ _)
   | (with_reducible exact spec_B10Mild.mono _ _)
   | (with_reducible exact LeO.refl _)
   | (with_reducible exact LeO.none _)
   | (with_reducible refine LeO.ite ?_ ?_)
   | (with_reducible refine LeO.bind ?_ (fun _ => ?_))
   | exact ih0 _ _ _ _ _ _ _ _
   | exact ih1 _ _ _ _ _ _ _ _ _ _
   | exact ih2 _ _ _ _ _ _ _ _ _ _ _ _ _ _ _
   | exact ih3 _ _ _ _
   | exact impl_AddBank.mono _ _ _ _ _ _ _
   | exact impl_BestBank.mono _ _ _ _ _ _ _ _
   | exact impl_FlatVoltages.mono _ _ _ _ _
   | exact impl_LowestBus.mono _ _ _ _ _ _ _ _ _
   | exact impl_RunSweeps.mono _ _ _ _ _ _ _
   | exact impl_ValidFeeder.mono _ _ _ _ _
   | exact spec_B10Mild.mono _ _
   | exact LeO.none _
   | refine LeO.ite ?_ ?_
   | refine LeO.bind ?_ (fun _ => ?_)
  ·intro y0 y1 y2 y3
   unfold laws_FnBanks.l1
   repeat' first
   | (with_reducible exact ih0 _ _ _ _ _ _ _ _)
   | (with_reducible exact ih1 _ _ _ _ _ _ _ _ _ _)
   | (with_reducible exact ih2 _ _ _ _ _ _ _ _ _ _ _ _ _ _ _)
   | (with_reducible exact ih3 _ _ _ _)
   | (with_reducible exact impl_AddBank.mono _ _ _ _ _ _ _)
   | (with_reducible exact impl_BestBank.mono _ _ _ _ _ _ _ _)
   | (with_reducible exact impl_FlatVoltages.mono _ _ _ _ _)
   | (with_reducible exact impl_LowestBus.mono _ _ _ _ _ _ _ _ _)
   | (with_reducible exact impl_RunSweeps.mono _ _ _ _ _ _ _)
   | (with_reducible exact impl_ValidFeeder.mono _ _ _ _ _)
   | (with_reducible exact spec_B10Mild.mono _ _)
   | (with_reducible exact LeO.refl _)
   | (with_reducible exact LeO.none _)
   | (with_reducible refine LeO.ite ?_ ?_)
   | (with_reducible refine LeO.bind ?_ (fun _ => ?_))
   | exact ih0 _ _ _ _ _ _ _ _
   | exact ih1 _ _ _ _ _ _ _ _ _ _
   | exact ih2 _ _ _ _ _ _ _ _ _ _ _ _ _ _ _
   | exact ih3 _ _ _ _
   | exact impl_AddBank.mono _ _ _ _ _ _ _
   | exact impl_BestBank.mono _ _ _ _ _ _ _ _
   | exact impl_FlatVoltages.mono _ _ _ _ _
   | exact impl_LowestBus.mono _ _ _ _ _ _ _ _ _
   | exact impl_RunSweeps.mono _ _ _ _ _ _ _
   | exact impl_ValidFeeder.mono _ _ _ _ _
   | exact spec_B10Mild.mono _ _
   | exact LeO.none _
   | refine LeO.ite ?_ ?_
   | refine LeO.bind ?_ (fun _ => ?_)
theorem laws_FnBanks.mono : ∀ a0 a1 k, LeO (laws_FnBanks.f k a0 a1) (laws_FnBanks.f (k + 1) a0 a1) := by
 intro a0 a1 k
 obtain ⟨ih0, ih1, ih2, ih3⟩ := laws_FnBanks.mono_l k
 unfold laws_FnBanks.f
 repeat' first
   | (with_reducible exact ih0 _ _ _ _ _ _ _ _)
   | (with_reducible exact ih1 _ _ _ _ _ _ _ _ _ _)
   | (with_reducible exact ih2 _ _ _ _ _ _ _ _ _ _ _ _ _ _ _)
   | (with_reducible exact ih3 _ _ _ _)
   | (with_reducible exact impl_AddBank.mono _ _ _ _ _ _ _)
   | (with_reducible exact impl_BestBank.mono _ _ _ _ _ _ _ _)
   | (with_reducible exact impl_FlatVoltages.mono _ _ _ _ _)
   | (with_reducible exact impl_LowestBus.mono _ _ _ _ _ _ _ _ _)
   | (with_reducible exact impl_RunSweeps.mono _ _ _ _ _ _ _)
   | (with_reducible exact impl_ValidFeeder.mono _ _ _ _ _)
   | (with_reducible exact spec_B10Mild.mono _ _)
   | (with_reducible exact LeO.refl _)
   | (with_reducible exact LeO.none _)
   | (with_reducible refine LeO.ite ?_ ?_)
   | (with_reducible refine LeO.bind ?_ (fun _ => ?_))
   | exact ih0 _ _ _ _ _ _ _ _
   | exact ih1 _ _ _ _ _ _ _ _ _ _
   | exact ih2 _ _ _ _ _ _ _ _ _ _ _ _ _ _ _
   | exact ih3 _ _ _ _
   | exact impl_AddBank.mono _ _ _ _ _ _ _
   | exact impl_BestBank.mono _ _ _ _ _ _ _ _
   | exact impl_FlatVoltages.mono _ _ _ _ _
   | exact impl_LowestBus.mono _ _ _ _ _ _ _ _ _
   | exact impl_RunSweeps.mono _ _ _ _ _ _ _
   | exact impl_ValidFeeder.mono _ _ _ _ _
   | exact spec_B10Mild.mono _ _
   | exact LeO.none _
   | refine LeO.ite ?_ ?_
   | refine LeO.bind ?_ (fun _ => ?_)
def laws_FnBanks.T13 : Bool × List (List Nat × List Nat) := (true, [([], []), ([], []), ([], []), ([], []), ([2, 3], [2, 3]), ([4], [4]), ([0, 1, 5], [0, 1, 5]), ([6], [6]), ([7], [7]), ([7], [7]), ([], []), ([10, 8, 6, 0, 1, 2, 3, 4, 5, 6, 7, 8, 10], [8, 10]), ([9, 11, 0, 1, 2, 3, 4, 5, 6, 7, 8, 9, 10, 11], [9])])
def laws_FnBanks.B13 : List Nat := [0, 0, 0, 0, 12, 28, 63, 127, 255, 255, 0, 1535, 4095]
theorem laws_FnBanks.tab13 : rtab .any (opsOf Try.f5 13) = laws_FnBanks.T13 := by kernel_rfl
theorem laws_FnBanks.bits13 : waitsOk laws_FnBanks.T13.2 laws_FnBanks.B13 = true := by kernel_rfl
def laws_FnBanks.T26 : Bool × List (List Nat × List Nat) := (true, [([], []), ([], []), ([0, 1], [0, 1]), ([2], [2]), ([], []), ([], []), ([4, 5], [4, 5]), ([6], [6]), ([3, 7], [3, 7]), ([8], [8]), ([9], [9]), ([9], [9]), ([10, 11, 9], [9, 10, 11]), ([12, 9, 9], [9, 12]), ([13], [13]), ([13], [13]), ([14, 15, 13], [13, 14, 15]), ([16, 13], [13, 16]), ([13], [13]), ([13], [13]), ([18, 19, 13], [13, 18, 19]), ([20, 13], [13, 20]), ([17, 21, 13], [13, 17, 21]), ([13, 22, 9], [9, 13, 22]), ([9, 23], [9, 23])])
def laws_FnBanks.B26 : List Nat := [0, 0, 3, 7, 0, 0, 48, 112, 255, 511, 1023, 1023, 4095, 8191, 16383, 16383, 65535, 131071, 16383, 16383, 802815, 1851391, 4194303, 8388607, 16777215]
theorem laws_FnBanks.tab26 : rtab .any (opsOf Try.f5 26) = laws_FnBanks.T26 := by kernel_rfl
theorem laws_FnBanks.bits26 : waitsOk laws_FnBanks.T26.2 laws_FnBanks.B26 = true := by kernel_rfl
set_option maxHeartbeats 8000000 in
set_option maxRecDepth 100000 in
theorem laws_FnBanks.calls (k : Nat) (A0 : Option Addr) (c0 : Nat) (l0 : List Int) (A1 : Option Addr) (c1 : Nat) (l1 : List Int) (r : Bool) (w : World) (hr0 : Kd.C (Kd.int .u8) w A0 l0.length l0) (hc0 : l0.length ≤ c0) (hr1 : Kd.C (Kd.int .u8) w A1 l1.length l1) (hc1 : l1.length ≤ c1) (h : laws_FnBanks.f k l0 l1 = some r) (hlaw : r = true) :
  Calls Try.prog 5 #[.slice A0 l0.length c0, .slice A1 l1.length c1] w fun e w' => e = .returned (.bool r) ∧ Below w.heap.size w w' := by
 have hu42 := Try.underlying42
 have hu51 := Try.underlying51
 have HR0 := Aside0.mk hr0
 have HC0 := Aside0.mk hc0
 clear hr0 hc0
 have HR1 := Aside0.mk hr1
 have HC1 := Aside0.mk hc1
 clear hr1 hc1
 have HB := Aside0.mk (Below.refl w.heap.size w)
 have H : ((laws_b10Long.f l0 l1).bind fun t499 => (if t499 = true then (some true) else ((spec_B10Mild.f k l0).bind fun bt500 => ((laws_b10At.f l1 0 (bt500.2.2.2.length : Int)).bind fun t507 => ((laws_b10At.f l1 1 9).bind fun t508 => (if fok .quo .f32 (floatOfInt .f32 (wrap64 (1 + t508))) 1115684864 = true then ((laws_b10At.f l1 2 9).bind fun t509 => (if fok .quo .f32 (floatOfInt .f32 (wrap64 (1 + t509))) 1107296256 = true then ((laws_b10At.f l1 3 9).bind fun t510 => (if fok .quo .f32 (floatOfInt .f32 (wrap64 (1 + t510))) 1098907648 = true then ((some (([fv .quo .f32 (floatOfInt .f32 (wrap64 (1 + t508))) 1115684864, fv .quo .f32 (floatOfInt .f32 (wrap64 (1 + t509))) 1107296256, fv .quo .f32 (floatOfInt .f32 (wrap64 (1 + t510))) 1098907648] : List Nat) : List Nat)).bind fun y511 => ((impl_BestBank.f k bt500.1 bt500.2.1 bt500.2.2.1 bt500.2.2.2 t507 y511 3).bind fun bt514 => (if bt514.2 = true then (if bt514.1 < 0 then (laws_FnBanks.j0 k t507 y511 bt514.1 true bt500.1 bt500.2.1 bt500.2.2.1 bt500.2.2.2) else (laws_FnBanks.j0 k t507 y511 bt514.1 (decide (bt514.1 ≥ (y511.length : Int))) bt500.1 bt500.2.1 bt500.2.2.1 bt500.2.2.2)) else (laws_FnBanks.j0 k t507 y511 bt514.1 true bt500.1 bt500.2.1 bt500.2.2.1 bt500.2.2.2)))) else (none))) else (none))) else (none))))))) = some r := h
 clear h
 replace H := Option.bind_eq_some_iff.mp H
 obtain ⟨t499, A30, H⟩ := H
 try dsimp only at H
 have A3 := Aside0.mk A30
 clear A30
 by_cases c4 : t499 = true
 ·subst c4
  rw [if_pos rfl] at H; try dsimp only at H
  as_aux_lemma =>
   obtain rfl := Option.some.inj H
   go_enter Try.func5, Try.ntmps5
   go_wp2_with (first | ((with_reducible refine gate_callee (f := 9) rfl ?_); refine gx_ (some 24) Try.func9 #[.slice A0 l0.length c0, .slice A1 l1.length c1] ?_; (with_reducible refine (laws_b10Long.calls _ _ l0 _ _ l1 true _ ?side1 ?side2 ?side3 ?side4 A3.out).mono ?_); (case side1 => exact cu HR0.out); (case side2 => exact HC0.out); (case side3 => exact cu HR1.out); (case side4 => exact HC1.out); rintro e w' ⟨rfl, ⟨nd, rfl⟩⟩; refine ⟨_, rfl, ?_⟩))
   go_ret
   exact ⟨re_, tb⟩
 ·replace c4 := Bool.eq_false_iff.mpr c4
  subst c4
  have H1 : ((spec_B10Mild.f k l0).bind fun bt500 => ((laws_b10At.f l1 0 (bt500.2.2.2.length : Int)).bind fun t507 => ((laws_b10At.f l1 1 9).bind fun t508 => (if fok .quo .f32 (floatOfInt .f32 (wrap64 (1 + t508))) 1115684864 = true then ((laws_b10At.f l1 2 9).bind fun t509 => (if fok .quo .f32 (floatOfInt .f32 (wrap64 (1 + t509))) 1107296256 = true then ((laws_b10At.f l1 3 9).bind fun t510 => (if fok .quo .f32 (floatOfInt .f32 (wrap64 (1 + t510))) 1098907648 = true then ((some (([fv .quo .f32 (floatOfInt .f32 (wrap64 (1 + t508))) 1115684864, fv .quo .f32 (floatOfInt .f32 (wrap64 (1 + t509))) 1107296256, fv .quo .f32 (floatOfInt .f32 (wrap64 (1 + t510))) 1098907648] : List Nat) : List Nat)).bind fun y511 => ((impl_BestBank.f k bt500.1 bt500.2.1 bt500.2.2.1 bt500.2.2.2 t507 y511 3).bind fun bt514 => (if bt514.2 = true then (if bt514.1 < 0 then (laws_FnBanks.j0 k t507 y511 bt514.1 true bt500.1 bt500.2.1 bt500.2.2.1 bt500.2.2.2) else (laws_FnBanks.j0 k t507 y511 bt514.1 (decide (bt514.1 ≥ (y511.length : Int))) bt500.1 bt500.2.1 bt500.2.2.1 bt500.2.2.2)) else (laws_FnBanks.j0 k t507 y511 bt514.1 true bt500.1 bt500.2.1 bt500.2.2.1 bt500.2.2.2)))) else (none))) else (none))) else (none))))) = some r := by rw [if_neg (show ¬ (false = true) by decide)] at H; exact H
  clear H
  have H := H1
  clear H1
  replace H := Option.bind_eq_some_iff.mp H
  obtain ⟨⟨t500, t501, t502, t503⟩, A50, H⟩ := H
  try dsimp only at H
  have A5 := Aside0.mk A50
  clear A50
  replace H := Option.bind_eq_some_iff.mp H
  obtain ⟨t507, A60, H⟩ := H
  try dsimp only at H
  have A6 := Aside0.mk A60
  clear A60
  replace H := Option.bind_eq_some_iff.mp H
  obtain ⟨t508, A70, H⟩ := H
  try dsimp only at H
  have A7 := Aside0.mk A70
  clear A70
  by_cases c8 : fok .quo .f32 (floatOfInt .f32 (wrap64 (1 + t508))) 1115684864 = true
  ·rw [if_pos c8] at H
   have c8b0 := eq_true c8
   have c8b1 : decide (fok .quo .f32 (floatOfInt .f32 (wrap64 (1 + t508))) 1115684864 = true) = true := decide_eq_true c8
   replace H := Option.bind_eq_some_iff.mp H
   obtain ⟨t509, A90, H⟩ := H
   try dsimp only at H
   have A9 := Aside0.mk A90
   clear A90
   by_cases c10 : fok .quo .f32 (floatOfInt .f32 (wrap64 (1 + t509))) 1107296256 = true
   ·rw [if_pos c10] at H
    have c10b0 := eq_true c10
    have c10b1 : decide (fok .quo .f32 (floatOfInt .f32 (wrap64 (1 + t509))) 1107296256 = true) = true := decide_eq_true c10
    replace H := Option.bind_eq_some_iff.mp H
    obtain ⟨t510, A110, H⟩ := H
    try dsimp only at H
    have A11 := Aside0.mk A110
    clear A110
    by_cases c12 : fok .quo .f32 (floatOfInt .f32 (wrap64 (1 + t510))) 1098907648 = true
    ·rw [if_pos c12] at H
     have c12b0 := eq_true c12
     have c12b1 : decide (fok .quo .f32 (floatOfInt .f32 (wrap64 (1 + t510))) 1098907648 = true) = true := decide_eq_true c12
     obtain ⟨y511, hy511⟩ : ∃ y_ : List Nat, y_ = (([fv .quo .f32 (floatOfInt .f32 (wrap64 (1 + t508))) 1115684864, fv .quo .f32 (floatOfInt .f32 (wrap64 (1 + t509))) 1107296256, fv .quo .f32 (floatOfInt .f32 (wrap64 (1 + t510))) 1098907648] : List Nat)) := ⟨_, rfl⟩
     replace H : ((impl_BestBank.f k t500 t501 t502 t503 t507 y511 3).bind fun bt514 => (if bt514.2 = true then (if bt514.1 < 0 then (laws_FnBanks.j0 k t507 y511 bt514.1 true t500 t501 t502 t503) else (laws_FnBanks.j0 k t507 y511 bt514.1 (decide (bt514.1 ≥ (y511.length : Int))) t500 t501 t502 t503)) else (laws_FnBanks.j0 k t507 y511 bt514.1 true t500 t501 t502 t503))) = some r := by first | (rw [hy511]; with_reducible exact H) | (have H2_ := (Option.bind_some _ _).symm.trans H; rw [hy511]; with_reducible exact H2_) | (have H2_ := (Option.bind_some _ _).symm.trans H; with_reducible exact H2_) | with_reducible exact H | (rw [hy511]; exact H) | exact H
     have Ny511 := Aside0.mk hy511
     clear hy511
     replace H := Option.bind_eq_some_iff.mp H
     obtain ⟨⟨t514, t515⟩, A130, H⟩ := H
     try dsimp only at H
     have A13 := Aside0.mk A130
     clear A130
     have HC14 := Aside0.mk H
     clear H
     go_enter Try.func5, Try.ntmps5
     go_upto_region 7 with (first | ((with_reducible refine gate_callee (f := 9) rfl ?_); refine gx_ (some 24) Try.func9 #[.slice A0 l0.length c0, .slice A1 l1.length c1] ?_; (with_reducible refine (laws_b10Long.calls _ _ l0 _ _ l1 false _ ?side1 ?side2 ?side3 ?side4 A3.out).mono ?_); (case side1 => exact cu HR0.out); (case side2 => exact HC0.out); (case side3 => exact cu HR1.out); (case side4 => exact HC1.out); rintro e w' ⟨rfl, ⟨nd, rfl⟩⟩; refine ⟨_, rfl, ?_⟩) | ((with_reducible refine gate_callee (f := 31) rfl ?_); refine gx_ (some 26) Try.func31 #[.slice A0 l0.length c0] ?_; (with_reducible refine (spec_B10Mild.calls k _ _ l0 t500 t501 t502 t503 _ ?side1 ?side2 A5.out).mono ?_); (case side1 => exact cu HR0.out); (case side2 => exact HC0.out); rintro e w15 ⟨v504, rfl, ho0, hb⟩; refine ⟨_, rfl, ?_⟩; have n0_ := Aside0.mk (Kd.R_lower ho0 (below_size tb)); have n1_ := Aside0.mk (below_step tb hb); clear HB; have HO505 := n0_; have HB := n1_; clear n0_ n1_; (try clear hb); (try clear hb2); (try clear hk); (try clear hi); (try clear ho0)) | ((with_reducible refine gate_dst (N := 5) rfl ?_); (try (refine gate_guard (by rfl) ?_; dsimp only)); refine box_event ?hg (N := 5) ?hd (cs := #[.complex .f32 0 0, .complex .f32 0 0, .complex .f32 0 0, .slice none 0 0]) (t := 42) ?hr ?_; (case hd => rfl); (case hg => rfl); (case hr => first | (go_simp; done) | (go_simp; rfl)); intro gb506 hg w16 hbox hb; have n0_ := Aside0.mk (Kd.R_below (ru HO505.out) hb); have n1_ := Aside0.mk (below_step tb hb); have n2_ := Aside0.mk (hbox); have n3_ := Aside0.mk ((by rw [hg]; exact (below_size tb) : w.heap.size ≤ gb506)); have n4_ := Aside0.mk ((by rw [hg]; exact (below_size tb) : w.heap.size ≤ gb506)); clear HO505; clear HB; have HO505 := n0_; have HB := n1_; have BK506 := n2_; have GW506 := n3_; have GE506 := n4_; clear n0_ n1_ n2_ n3_ n4_; clear hb hbox hg; have hcz17_0 : w16.cell? ⟨gb506, 0, none⟩ = some (.complex .f32 0 0) := (blk_cell BK506.out 0).trans rfl; have hcz17_1 : w16.cell? ⟨gb506, 1, none⟩ = some (.complex .f32 0 0) := (blk_cell BK506.out 1).trans rfl; have hcz17_2 : w16.cell? ⟨gb506, 2, none⟩ = some (.complex .f32 0 0) := (blk_cell BK506.out 2).trans rfl; have hcz17_3 : w16.cell? ⟨gb506, 3, none⟩ = some (.slice none 0 0) := (blk_cell BK506.out 3).trans rfl; have hfz17_0 := blk_frozen BK506.out 0; have hfz17_1 := blk_frozen BK506.out 1; have hfz17_2 := blk_frozen BK506.out 2; have hfz17_3 := blk_frozen BK506.out 3; obtain ⟨Ao18, co18, eo18⟩ := Kd.R_slice HO505.out; subst eo18) | ((with_reducible refine gate_callee (f := 10) rfl ?_); refine gx_ (some 31) Try.func10 #[.slice A1 l1.length c1, .int .i64 0, .int .i64 (t503.length : Int)] ?_; (with_reducible refine (laws_b10At.calls _ _ l1 0 (t503.length : Int) t507 _ ?side1 ?side2 A6.out).mono ?_); (case side1 => exact Kd.C_below HR1.out tb); (case side2 => exact HC1.out); rintro e w' ⟨rfl, ⟨nd, rfl⟩⟩; refine ⟨_, rfl, ?_⟩) | ((with_reducible refine gate_callee (f := 10) rfl ?_); refine gx_ (some 33) Try.func10 #[.slice A1 l1.length c1, .int .i64 1, .int .i64 9] ?_; (with_reducible refine (laws_b10At.calls _ _ l1 1 9 t508 _ ?side1 ?side2 A7.out).mono ?_); (case side1 => exact Kd.C_below HR1.out tb); (case side2 => exact HC1.out); rintro e w' ⟨rfl, ⟨nd, rfl⟩⟩; refine ⟨_, rfl, ?_⟩) | ((with_reducible refine gate_callee (f := 10) rfl ?_); refine gx_ (some 38) Try.func10 #[.slice A1 l1.length c1, .int .i64 2, .int .i64 9] ?_; (with_reducible refine (laws_b10At.calls _ _ l1 2 9 t509 _ ?side1 ?side2 A9.out).mono ?_); (case side1 => exact Kd.C_below HR1.out tb); (case side2 => exact HC1.out); rintro e w' ⟨rfl, ⟨nd, rfl⟩⟩; refine ⟨_, rfl, ?_⟩) | ((with_reducible refine gate_callee (f := 10) rfl ?_); refine gx_ (some 43) Try.func10 #[.slice A1 l1.length c1, .int .i64 3, .int .i64 9] ?_; (with_reducible refine (laws_b10At.calls _ _ l1 3 9 t510 _ ?side1 ?side2 A11.out).mono ?_); (case side1 => exact Kd.C_below HR1.out tb); (case side2 => exact HC1.out); rintro e w' ⟨rfl, ⟨nd, rfl⟩⟩; refine ⟨_, rfl, ?_⟩) | ((with_reducible refine gate_dst (N := 47) rfl ?_); (try (refine gate_guard (by rfl) ?_; dsimp only)); refine Kd.R_lit Kd.f32 _ 34 ?hg (N := 47) ?hd (xs := ([fv .quo .f32 (floatOfInt .f32 (wrap64 (1 + t508))) 1115684864, fv .quo .f32 (floatOfInt .f32 (wrap64 (1 + t509))) 1107296256, fv .quo .f32 (floatOfInt .f32 (wrap64 (1 + t510))) 1098907648] : List Nat)) (inner := [.float .f32 (fv .quo .f32 (floatOfInt .f32 (wrap64 (1 + t508))) 1115684864), .float .f32 (fv .quo .f32 (floatOfInt .f32 (wrap64 (1 + t509))) 1107296256), .float .f32 (fv .quo .f32 (floatOfInt .f32 (wrap64 (1 + t510))) 1098907648)]) (ok := fun _ => True) (okp := fun _ => True) ?hr ?hp (fun _ hk => hk) trivial (Below.refl _ _) (Nat.le_refl _) (by simp) ?_; (case hd => rfl); (case hg => rfl); (case hr => first | (go_simp; done) | (go_simp; rfl)); (case hp => exact (Reps.one (show Kd.M Kd.f32 _ _ _ (fv .quo .f32 (floatOfInt .f32 (wrap64 (1 + t508))) 1115684864) [.float .f32 (fv .quo .f32 (floatOfInt .f32 (wrap64 (1 + t508))) 1115684864)] from rfl) (Reps.one (show Kd.M Kd.f32 _ _ _ (fv .quo .f32 (floatOfInt .f32 (wrap64 (1 + t509))) 1107296256) [.float .f32 (fv .quo .f32 (floatOfInt .f32 (wrap64 (1 + t509))) 1107296256)] from rfl) (Reps.one (show Kd.M Kd.f32 _ _ _ (fv .quo .f32 (floatOfInt .f32 (wrap64 (1 + t510))) 1098907648) [.float .f32 (fv .quo .f32 (floatOfInt .f32 (wrap64 (1 + t510))) 1098907648)] from rfl) (Reps.none _ _))))); intro v512 w19 ho20 hb hg_ hnew_; clear hg_ hnew_; (first | rw [← Ny511.out] at ho20 | (simp only [Int.reduceToNat] at ho20; rw [← Ny511.out] at ho20)); have n0_ := Aside0.mk (Kd.R_below (by refine ru ?_; exact (Kd.R_mono (Kd.R_far (p := ⟨gb506, 3, none⟩) (Kd.R_far (p := ⟨gb506, 2, none⟩) (Kd.R_far (p := ⟨gb506, 1, none⟩) (Kd.R_far (p := ⟨gb506, 0, none⟩) (Kd.R_types HO505.out BK506.out (by decide)) (fun _ hk => hk.2) (.complex .f32 t500.re t500.im)) (fun _ hk => hk.2) (.complex .f32 t501.re t501.im)) (fun _ hk => hk.2) (.complex .f32 t502.re t502.im)) (fun _ hk => hk.2) (.slice Ao18 t503.length co18)) (fun _ h_ => h_.1))) hb); have n1_ := Aside0.mk (Kd.R_lower ho20 (below_size tb)); have n2_ := Aside0.mk (blk_below (g := gb506) (o := .cells #[.complex .f32 t500.re t500.im, .complex .f32 t501.re t501.im, .complex .f32 t502.re t502.im, .slice Ao18 t503.length co18] 42 (0, 0)) (by refine bu ?_; refine blk_put (cs := #[.complex .f32 t500.re t500.im, .complex .f32 t501.re t501.im, .complex .f32 t502.re t502.im, .slice none 0 0]) ?_ 3 _ rfl; refine bu ?_; refine blk_put (cs := #[.complex .f32 t500.re t500.im, .complex .f32 t501.re t501.im, .complex .f32 0 0, .slice none 0 0]) ?_ 2 _ rfl; refine bu ?_; refine blk_put (cs := #[.complex .f32 t500.re t500.im, .complex .f32 0 0, .complex .f32 0 0, .slice none 0 0]) ?_ 1 _ rfl; refine bu ?_; refine blk_put (cs := #[.complex .f32 0 0, .complex .f32 0 0, .complex .f32 0 0, .slice none 0 0]) ?_ 0 _ rfl; refine bu ?_; exact BK506.out) hb); have n3_ := Aside0.mk (below_step tb hb); clear HO505; clear BK506; clear HB; have HO505 := n0_; have HO513 := n1_; have BK506 := n2_; have HB := n3_; clear n0_ n1_ n2_ n3_; clear hb ho20; have hcz21_0 : w19.cell? ⟨gb506, 0, none⟩ = some (.complex .f32 t500.re t500.im) := (blk_cell BK506.out 0).trans rfl; have hcz21_1 : w19.cell? ⟨gb506, 1, none⟩ = some (.complex .f32 t501.re t501.im) := (blk_cell BK506.out 1).trans rfl; have hcz21_2 : w19.cell? ⟨gb506, 2, none⟩ = some (.complex .f32 t502.re t502.im) := (blk_cell BK506.out 2).trans rfl; have hcz21_3 : w19.cell? ⟨gb506, 3, none⟩ = some (.slice Ao18 t503.length co18) := (blk_cell BK506.out 3).trans rfl; have hfz21_0 := blk_frozen BK506.out 0; have hfz21_1 := blk_frozen BK506.out 1; have hfz21_2 := blk_frozen BK506.out 2; have hfz21_3 := blk_frozen BK506.out 3; obtain ⟨Ao22, co22, eo22⟩ := Kd.R_slice HO513.out; subst eo22) | ((with_reducible refine gate_callee (f := 32) rfl ?_); refine gx_ (some 52) Try.func32 #[.agg #[.complex .f32 t500.re t500.im, .complex .f32 t501.re t501.im, .complex .f32 t502.re t502.im, .slice Ao18 t503.length co18], .int .i64 t507, .slice Ao22 y511.length co22, .int .i64 3] ?_; (with_reducible refine (impl_BestBank.calls k t500 t501 t502 _ _ t503 t507 _ _ y511 3 t514 t515 _ ?side1 ?side2 ?side3 ?side4 A13.out).mono ?_); (case side1 => exact cu ((Kd.R_reads' HO505.out).2.2)); (case side2 => exact (Kd.R_reads' HO505.out).2.1); (case side3 => exact cu ((Kd.R_reads' HO513.out).2.2)); (case side4 => exact (Kd.R_reads' HO513.out).2.1); rintro e w23 ⟨rfl, hb⟩; refine ⟨_, rfl, ?_⟩; have n0_ := Aside0.mk (Kd.R_below (ru HO505.out) hb); have n1_ := Aside0.mk (Kd.R_below (ru HO513.out) hb); have n2_ := Aside0.mk (blk_below (g := gb506) (o := .cells #[.complex .f32 t500.re t500.im, .complex .f32 t501.re t501.im, .complex .f32 t502.re t502.im, .slice Ao18 t503.length co18] 42 (0, 0)) (bu BK506.out) hb); have n3_ := Aside0.mk (below_step tb hb); clear HO505; clear HO513; clear BK506; clear HB; have HO505 := n0_; have HO513 := n1_; have BK506 := n2_; have HB := n3_; clear n0_ n1_ n2_ n3_; (try clear hb); (try clear hb2); (try clear hk); (try clear hi)))
     try refine pt_ ?_
     go_cut [66] (fun v66 wc => ∃ (kq : Nat) (x66_13 : Bool), v66 = .bool x66_13 ∧ Aside0 (laws_FnBanks.j0 kq t507 y511 t514 x66_13 t500 t501 t502 t503 = some r) ∧ Aside0 (kq ≤ k) ∧ Aside0 (Kd.R Kd.f32 34 wc w.heap.size (fun _ => True) (.slice Ao22 y511.length co22) y511) ∧ Aside0 (Kd.R k66 66 wc w.heap.size (fun _ => True) (.slice Ao18 t503.length co18) t503) ∧ Aside0 (wc.heap[gb506]? = some (.cells #[.complex .f32 t500.re t500.im, .complex .f32 t501.re t501.im, .complex .f32 t502.re t502.im, (.slice Ao18 t503.length co18)] 42 (0, 0))) ∧ Aside0 (Below w.heap.size w wc))
     case first =>
      have H := HC14.out
      clear HC14
      by_cases c24 : t515 = true
      ·subst c24
       rw [if_pos rfl] at H; try dsimp only at H
       by_cases c25 : t514 < 0
       ·rw [if_pos c25] at H
        have c25b0 : decide (t514 < 0) = true := decide_eq_true c25
        clear c25
        (first | rw [c25b0] | (simp only [i64_w, i32_w]; rw [c25b0]) | skip)
        as_aux_lemma =>
         have H' := Aside0.mk H
         clear H
         go_wp2
         go_meet
         case rel => exact ⟨_, (true), rs_, H', ⟨by exact om_⟩, ⟨by refine ru ?_; exact HO513.out⟩, ⟨by refine ru ?_; exact HO505.out⟩, ⟨by refine bu ?_; exact BK506.out⟩, ⟨tb⟩⟩
       ·rw [if_neg c25] at H
        have c25b0 : decide (t514 < 0) = false := decide_eq_false c25
        clear c25
        (first | rw [c25b0] | (simp only [i64_w, i32_w]; rw [c25b0]) | skip)
        as_aux_lemma =>
         have H' := Aside0.mk H
         clear H
         go_wp2
         go_meet
         case rel => exact ⟨_, (decide (t514 ≥ (y511.length : Int))), rs_, H', ⟨by exact om_⟩, ⟨by refine ru ?_; exact HO513.out⟩, ⟨by refine ru ?_; exact HO505.out⟩, ⟨by refine bu ?_; exact BK506.out⟩, ⟨tb⟩⟩
      ·replace c24 := Bool.eq_false_iff.mpr c24
       subst c24
       have H1 : (laws_FnBanks.j0 k t507 y511 t514 true t500 t501 t502 t503) = some r := by rw [if_neg (show ¬ (false = true) by decide)] at H; exact H
       clear H
       have H := H1
       clear H1
       as_aux_lemma =>
        have H' := Aside0.mk H
        clear H
        go_wp2
        go_meet
        case rel => exact ⟨_, (true), rs_, H', ⟨by exact om_⟩, ⟨by refine ru ?_; exact HO513.out⟩, ⟨by refine ru ?_; exact HO505.out⟩, ⟨by refine bu ?_; exact BK506.out⟩, ⟨tb⟩⟩
     case rest =>
      clear HC14
      try clear c1
      try clear c2
      try clear p2
      try clear c3
      try clear c4
      try clear c5
      try clear p6
      try clear c8
      try clear c8b0
      try clear c8b1
      try clear c9
      try clear c10
      try clear c10b0
      try clear c10b1
      try clear c12
      try clear c12b0
      try clear c12b1
      try clear c24
      try clear c25
      try clear c25b0
      try clear hcz17_0
      try clear hcz17_1
      try clear hcz17_2
      try clear hcz17_3
      try clear hcz21_0
      try clear hcz21_1
      try clear hcz21_2
      try clear hcz21_3
      try clear hfz17_0
      try clear hfz17_1
      try clear hfz17_2
      try clear hfz17_3
      try clear hfz21_0
      try clear hfz21_1
      try clear hfz21_2
      try clear hfz21_3
      obtain ⟨kq, x66_13, rfl, HA, HJ13, HO_7, HO_507003, BK506, HB⟩ := hcut
      cases kq with
      | zero => exact absurd HA.out (by simp [laws_FnBanks.j0])
      | succ kj13 =>
       have H := HA.out
       clear HA
       simp only [laws_FnBanks.j0] at H
       by_cases c26 : x66_13 = true
       ·subst c26
        rw [if_pos rfl] at H; try dsimp only at H
        exact absurd (H.trans (congrArg some hlaw)) (by decide)
       ·replace c26 := Bool.eq_false_iff.mpr c26
        subst c26
        have H1 : (laws_FnBanks.l0 kj13 t507 y511 t514 (([] : List Nat)) (y511.length : Int) 0 t500 t501 t502 t503) = some r := by rw [if_neg (show ¬ (false = true) by decide)] at H; exact H
        clear H
        have H := H1
        clear H1
        obtain ⟨y516, hy516⟩ : ∃ y_ : List Nat, y_ = (([] : List Nat)) := ⟨_, rfl⟩
        replace H : (laws_FnBanks.l0 kj13 t507 y511 t514 y516 (y511.length : Int) 0 t500 t501 t502 t503) = some r := by first | (rw [hy516]; with_reducible exact H) | (have H2_ := (Option.bind_some _ _).symm.trans H; rw [hy516]; with_reducible exact H2_) | (have H2_ := (Option.bind_some _ _).symm.trans H; with_reducible exact H2_) | with_reducible exact H | (rw [hy516]; exact H) | exact H
        have Ny516 := Aside0.mk hy516
        clear hy516
        have H' := Aside0.mk H
        clear H
        go_wp2_with (first | ((with_reducible refine gate_dst (N := 67) rfl ?_); (try (refine gate_guard (by rfl) ?_; dsimp only)); refine Kd.R_lit Kd.f32 _ 34 ?hg (N := 67) ?hd (xs := ([] : List Nat)) (inner := []) (ok := fun _ => True) (okp := fun _ => True) ?hr ?hp (fun _ hk => hk) trivial (Below.refl _ _) (Nat.le_refl _) (by simp) ?_; (case hd => rfl); (case hg => rfl); (case hr => first | (go_simp; done) | (go_simp; rfl)); (case hp => exact (Reps.none _ _)); intro v517 w27 ho28 hb hg_ hnew_; clear hg_ hnew_; (first | rw [← Ny516.out] at ho28 | (simp only [Int.reduceToNat] at ho28; rw [← Ny516.out] at ho28)); have n0_ := Aside0.mk (Kd.R_elder' (ru HO_7.out) (Kd.R_base ho28) hb); have n1_ := Aside0.mk (Kd.R_below (ru HO_507003.out) hb); have n2_ := Aside0.mk (Kd.R_lower (Kd.R_new' ho28 (Kd.R_lt (ru HO_7.out))) (below_size tb)); have n3_ := Aside0.mk (blk_below (g := gb506) (o := .cells #[.complex .f32 t500.re t500.im, .complex .f32 t501.re t501.im, .complex .f32 t502.re t502.im, .slice Ao18 t503.length co18] 42 (0, 0)) (bu BK506.out) hb); have n4_ := Aside0.mk (below_step tb hb); clear HO_7; clear HO_507003; clear BK506; clear HB; have HO_7 := n0_; have HO_507003 := n1_; have HO518 := n2_; have BK506 := n3_; have HB := n4_; clear n0_ n1_ n2_ n3_ n4_; clear hb ho28))
        go_loopg [10, 70] kj13 (fun kq v10 v70 w' => ∃ (x10_2 : List Nat) (x70_2 : Int), v70 = .int .i64 x70_2 ∧ Aside0 (laws_FnBanks.l0 kq t507 y511 t514 x10_2 (y511.length : Int) x70_2 t500 t501 t502 t503 = some r) ∧ Aside0 (kq ≤ kj13) ∧ Aside0 (Kd.R Kd.f32 34 w' w.heap.size (fun k_ => some k_ ≠ (v10 : Value).ownBlock) (.slice Ao22 y511.length co22) y511) ∧ Aside0 (Kd.R Kd.f32 34 w' w.heap.size (fun k_ => some k_ ≠ ((.slice Ao22 y511.length co22) : Value).ownBlock) v10 x10_2) ∧ Aside0 (Kd.R k66 66 w' w.heap.size (fun _ => True) (.slice Ao18 t503.length co18) t503) ∧ Aside0 (w'.heap[gb506]? = some (.cells #[.complex .f32 t500.re t500.im, .complex .f32 t501.re t501.im, .complex .f32 t502.re t502.im, (.slice Ao18 t503.length co18)] 42 (0, 0))) ∧ Aside0 (Below w.heap.size w w'))
        case atStart => exact ⟨(y516), (0), rs_, H', ⟨Nat.le_refl _⟩, ⟨by refine ru ?_; exact Kd.R_mono HO_7.out (fun _ hk => hk.2)⟩, ⟨by refine ru ?_; exact Kd.R_mono HO518.out (fun _ hk => hk.2)⟩, ⟨by refine ru ?_; exact HO_507003.out⟩, ⟨by refine bu ?_; exact BK506.out⟩, ⟨tb⟩⟩
        case round =>
         clear H'
         try clear c1
         try clear c2
         try clear p2
         try clear c3
         try clear c4
         try clear c5
         try clear p6
         try clear c8
         try clear c8b0
         try clear c8b1
         try clear c9
         try clear c10
         try clear c10b0
         try clear c10b1
         try clear c12
         try clear c12b0
         try clear c12b1
         try clear c24
         try clear c25
         try clear c25b0
         try clear c26
         try clear hcz17_0
         try clear hcz17_1
         try clear hcz17_2
         try clear hcz17_3
         try clear hcz21_0
         try clear hcz21_1
         try clear hcz21_2
         try clear hcz21_3
         try clear hfz17_0
         try clear hfz17_1
         try clear hfz17_2
         try clear hfz17_3
         try clear hfz21_0
         try clear hfz21_1
         try clear hfz21_2
         try clear hfz21_3
         try clear p2
         try clear p6
         obtain ⟨x10_2, x70_2, rfl, HA, HK2, HO_7, HO_10, HO_507003, BK506, HB⟩ := hrel
         cases gk with
         | zero => exact absurd HA.out (by simp [laws_FnBanks.l0])
         | succ k2 =>
          have H := HA.out
          clear HA
          simp only [laws_FnBanks.l0] at H
          by_cases c29 : x70_2 < (y511.length : Int)
          ·rw [if_pos c29] at H
           have c29b0 : decide (x70_2 < (y511.length : Int)) = true := decide_eq_true c29
           clear c29
           by_cases c30 : 0 ≤ x70_2
           ·rw [if_pos c30] at H
            have c30b0 : decide (0 ≤ x70_2) = true := decide_eq_true c30
            clear c30
            by_cases c31 : x70_2 < (y511.length : Int)
            ·rw [if_pos c31] at H
             have c31b0 : decide (x70_2 < (y511.length : Int)) = true := decide_eq_true c31
             clear c31
             replace H := Option.bind_eq_some_iff.mp H
             obtain ⟨⟨t520, t521, t522, t523, t526⟩, A320, H⟩ := H
             try dsimp only at H
             have A32 := Aside0.mk A320
             clear A320
             have HC33 := Aside0.mk H
             clear H
             try go_wp2
             have n0_ := Aside0.mk (Kd.R_drew HO_7.out)
             have n1_ := Aside0.mk (Kd.R_drew HO_10.out)
             have n2_ := Aside0.mk (Kd.R_drew HO_507003.out)
             have n3_ := Aside0.mk (blk_drew BK506.out)
             have n4_ := Aside0.mk (below_drew1 HB.out)
             clear HO_7
             clear HO_10
             clear HO_507003
             clear BK506
             clear HB
             have HO_7 := n0_
             have HO_10 := n1_
             have HO_507003 := n2_
             have BK506 := n3_
             have HB := n4_
             clear n0_ n1_ n2_ n3_ n4_
             have p519 : 0 ≤ (x70_2 : Int) := of_decide_eq_true (by first | (with_reducible assumption) | assumption)
             have q519 : x70_2 < (y511.length : Int) := of_decide_eq_true (by first | (with_reducible assumption) | assumption)
             obtain ⟨ad519, e519, hx519_0⟩ := Kd.at_f32 (Kd.R_reads' HO_7.out).2.2 x70_2 p519 q519
             cases e519
             replace p519 := eq_true p519
             replace q519 := eq_true q519
             refine start_ (n := 13) (S := fun w' => w'.cell? ⟨gb506, 0, none⟩ = some (.complex .f32 t500.re t500.im) ∧ w'.cell? ⟨gb506, 1, none⟩ = some (.complex .f32 t501.re t501.im) ∧ w'.cell? ⟨gb506, 2, none⟩ = some (.complex .f32 t502.re t502.im) ∧ w'.cell? ⟨gb506, 3, none⟩ = some (.slice Ao18 t503.length co18) ∧ w'.cell? (ad519.add (x70_2).toNat) = some (.float .f32 (rdOf (0 : Nat) y511 x70_2))) (ds := []) #[false, false, false, false, false, false, false, false, false, false, false, false, false] (by kernel_rfl) rfl rfl ⟨(blk_cell BK506.out 0).trans rfl, (blk_cell BK506.out 1).trans rfl, (blk_cell BK506.out 2).trans rfl, (blk_cell BK506.out 3).trans rfl, hx519_0⟩ (fun hHeld => ?_); refine with_tabW laws_FnBanks.tab13 laws_FnBanks.bits13 (fun HT_ HW_ => ?_)
             generalize wr.drew = w34 at HO_7 HO_10 HO_507003 BK506 HB hx519_0 hHeld ⊢
             refine pure_ (i := 1) (N := some 75) (v := ?_) (a' := ?_) #[false, true, false, false, false, false, false, false, false, false, false, false, false] rfl rfl (any_of HT_.out (by kernel_rfl)) (fun _ _ _ h => h) (Or.inl ⟨by rfl, ?_⟩) ?_ ?_
             rotate_left
             ·intro w'
              go_simp
              with_reducible rfl
             rotate_left
             ·refine ps_ ?_
              rfl
             refine pure_ (i := 2) (N := some 76) (v := ?_) (a' := ?_) #[false, true, true, false, false, false, false, false, false, false, false, false, false] rfl rfl (any_of HT_.out (by kernel_rfl)) (fun _ _ _ h => h) (Or.inl ⟨by rfl, ?_⟩) ?_ ?_
             rotate_left
             ·intro w'
              go_simp
              with_reducible rfl
             rotate_left
             ·refine ps_ ?_
              rfl
             refine pure_ (i := 3) (N := some 77) (v := ?_) (a' := ?_) #[false, true, true, true, false, false, false, false, false, false, false, false, false] rfl rfl (any_of HT_.out (by kernel_rfl)) (fun _ _ _ h => h) (Or.inl ⟨by rfl, ?_⟩) ?_ ?_
             rotate_left
             ·intro w'
              go_simp
              with_reducible rfl
             rotate_left
             ·refine ps_ ?_
              rfl
             refine pure_ (i := 4) (N := some 78) (v := ?_) (a' := ?_) #[false, true, true, true, true, false, false, false, false, false, false, false, false] rfl rfl (any_of HT_.out (by kernel_rfl)) (fun _ _ _ h => h) (Or.inl ⟨by rfl, ?_⟩) ?_ ?_
             rotate_left
             ·intro w'
              go_simp
              with_reducible rfl
             rotate_left
             ·refine ps_ ?_
              rfl
             refine take_ (i := 0) (N := some 74) (v := ?_) (a' := ?_) #[true, true, true, true, true, false, false, false, false, false, false, false, false] rfl rfl (take_ofW HT_.out HW_.out (by kernel_rfl)) (fun _ _ _ h => h) (Or.inl ⟨by rfl, ?_⟩) hHeld ?_ ?_
             rotate_left
             ·rintro w' ⟨s0, s1, s2, s3, s4⟩
              go_simp
              with_reducible rfl
             rotate_left
             ·refine ps_ ?_
              rfl
             refine take_ (i := 5) (N := some 79) (v := ?_) (a' := ?_) #[true, true, true, true, true, true, false, false, false, false, false, false, false] rfl rfl (take_ofW HT_.out HW_.out (by kernel_rfl)) (fun _ _ _ h => h) (Or.inl ⟨by rfl, ?_⟩) hHeld ?_ ?_
             rotate_left
             ·rintro w' ⟨s0, s1, s2, s3, s4⟩
              go_simp
              with_reducible rfl
             rotate_left
             ·refine ps_ ?_
              rfl
             refine join_ (σ := Value × Nat) 2 #[true, true, true, true, true, true, true, true, true, true, true, false, false] (fun s_ => [(80, .tuple #[.agg #[.complex .f32 t520.re t520.im, .complex .f32 t521.re t521.im, .complex .f32 t522.re t522.im, s_.1], .bool t526]), (12, .pointer (some ⟨s_.2, 0, none⟩)), (73, .tuple #[.agg #[.complex .f32 t520.re t520.im, .complex .f32 t521.re t521.im, .complex .f32 t522.re t522.im, s_.1], .bool t526]), (81, .agg #[.complex .f32 t520.re t520.im, .complex .f32 t521.re t521.im, .complex .f32 t522.re t522.im, s_.1]), (82, .bool t526)]) (fun s_ w' => (w'.cell? ⟨gb506, 0, none⟩ = some (.complex .f32 t500.re t500.im) ∧ w'.cell? ⟨gb506, 1, none⟩ = some (.complex .f32 t501.re t501.im) ∧ w'.cell? ⟨gb506, 2, none⟩ = some (.complex .f32 t502.re t502.im) ∧ w'.cell? ⟨gb506, 3, none⟩ = some (.slice Ao18 t503.length co18) ∧ w'.cell? (ad519.add (x70_2).toNat) = some (.float .f32 (rdOf (0 : Nat) y511 x70_2))) ∧ (Kd.R k66 66 w' w.heap.size (fun k_ => some k_ ≠ (.slice Ao18 t503.length co18 : Value).ownBlock) s_.1 t523) ∧ (Kd.R Kd.f32 34 w' w.heap.size (fun k_ => some k_ ≠ (.slice (some ad519) y511.length co22 : Value).ownBlock) u10 x10_2) ∧ (Kd.R k66 66 w' w.heap.size (fun k_ => some k_ ≠ (s_.1 : Value).ownBlock) (.slice Ao18 t503.length co18) t503) ∧ (Kd.R Kd.f32 34 w' w.heap.size (fun k_ => some k_ ≠ (u10 : Value).ownBlock) (.slice (some ad519) y511.length co22) y511) ∧ (w'.heap[gb506]? = some (.cells #[.complex .f32 t500.re t500.im, .complex .f32 t501.re t501.im, .complex .f32 t502.re t502.im, .slice Ao18 t503.length co18] 42 (0, 0))) ∧ (w'.heap[s_.2]? = some (.cells #[.complex .f32 0 0, .complex .f32 0 0, .complex .f32 0 0, .slice none 0 0] 42 (0, 0))) ∧ (w.heap.size ≤ s_.2) ∧ (w.heap.size ≤ s_.2) ∧ (gb506 ≠ s_.2) ∧ (s_.2 ≠ gb506) ∧ (Below w.heap.size w w')) ?_ ?_
             rotate_left
             ·intro hCont
              refine two_ (i := 6) (j := 10) (Ni := some 80) (Nj := some 12) #[true, true, true, true, true, true, true, false, false, false, false, false, false] #[true, true, true, true, true, true, false, false, false, false, true, false, false] rfl rfl rfl rfl (two_of HT_.out (by kernel_rfl)) (by decide) (by decide) (fun K hK => ?_) (fun K hK => ?_)
              ·skip
               refine goes_ Try.func33 (by kernel_rfl) rfl #[.agg #[.complex .f32 t500.re t500.im, .complex .f32 t501.re t501.im, .complex .f32 t502.re t502.im, .slice Ao18 t503.length co18], .int .i64 t507, .float .f32 (rdOf (0 : Nat) y511 x70_2)] (by rfl) rfl rfl mp_ ?_
               with_reducible refine (impl_AddBank.calls k2 t500 t501 t502 _ _ t503 t507 (rdOf (0 : Nat) y511 x70_2) t520 t521 t522 t523 t526 _ ?side1 ?side2 A32.out).mono ?_
               (case side1 => exact cu ((Kd.R_reads' HO_507003.out).2.2))
               (case side2 => exact (Kd.R_reads' HO_507003.out).2.1)
               rintro e w35 ⟨v524, rfl, ho0, hb⟩
               have HS4_ := (hb.cell (World.block_lt_of_cell? _ _ (hHeld.2.2.2.2))).trans (hHeld.2.2.2.2)
               refine ⟨_, rfl, ?_⟩
               have n0_ := Aside0.mk (Kd.R_below (ru HO_7.out) hb)
               have n1_ := Aside0.mk (Kd.R_below (ru HO_10.out) hb)
               have n2_ := Aside0.mk (Kd.R_elder' (ru HO_507003.out) (Kd.R_base ho0) hb)
               have n3_ := Aside0.mk (Kd.R_lower (Kd.R_new' ho0 (Kd.R_lt (ru HO_507003.out))) (below_size tb))
               have n4_ := Aside0.mk (blk_below (g := gb506) (o := .cells #[.complex .f32 t500.re t500.im, .complex .f32 t501.re t501.im, .complex .f32 t502.re t502.im, .slice Ao18 t503.length co18] 42 (0, 0)) (bu BK506.out) hb)
               have n5_ := Aside0.mk (below_step tb hb)
               clear HO_7
               clear HO_10
               clear HO_507003
               clear BK506
               clear HB
               have HO_7 := n0_
               have HO_10 := n1_
               have HO_507003 := n2_
               have HO525 := n3_
               have BK506 := n4_
               have HB := n5_
               clear n0_ n1_ n2_ n3_ n4_ n5_
               (try clear hb)
               (try clear hb2)
               (try clear hk)
               (try clear hi)
               (try clear ho0)
               refine hK.out _ _ ⟨(blk_cell BK506.out 0).trans rfl, (blk_cell BK506.out 1).trans rfl, (blk_cell BK506.out 2).trans rfl, (blk_cell BK506.out 3).trans rfl, HS4_⟩ (fun hHeld => ?_)
               clear hK K
               refine norm_ (a' := ?_) ?_ ?_
               rotate_left
               ·show Act.put _ (some 80) _ = _
                refine ps_ ?_
                rfl
               refine pure_ (i := 7) (N := some 73) (v := ?_) (a' := ?_) #[true, true, true, true, true, true, true, true, false, false, false, false, false] rfl rfl (any_of HT_.out (by kernel_rfl)) (fun _ _ _ h => h) (Or.inl ⟨by rfl, ?_⟩) ?_ ?_
               rotate_left
               ·intro w'
                go_simp
                with_reducible rfl
               rotate_left
               ·refine ps_ ?_
                rfl
               refine pure_ (i := 8) (N := some 81) (v := ?_) (a' := ?_) #[true, true, true, true, true, true, true, true, true, false, false, false, false] rfl rfl (any_of HT_.out (by kernel_rfl)) (fun _ _ _ h => h) (Or.inl ⟨by rfl, ?_⟩) ?_ ?_
               rotate_left
               ·intro w'
                go_simp
                with_reducible rfl
               rotate_left
               ·refine ps_ ?_
                rfl
               refine pure_ (i := 9) (N := some 82) (v := ?_) (a' := ?_) #[true, true, true, true, true, true, true, true, true, true, false, false, false] rfl rfl (any_of HT_.out (by kernel_rfl)) (fun _ _ _ h => h) (Or.inl ⟨by rfl, ?_⟩) ?_ ?_
               rotate_left
               ·intro w'
                go_simp
                with_reducible rfl
               rotate_left
               ·refine ps_ ?_
                rfl
               refine one_ (i := 10) (N := some 12) #[true, true, true, true, true, true, true, true, true, true, true, false, false] rfl rfl (one_of HT_.out (by kernel_rfl)) (by decide) (fun K hK => ?_)
               refine box_step ?hg (N := 12) ?hd (cs := #[.complex .f32 0 0, .complex .f32 0 0, .complex .f32 0 0, .slice none 0 0]) (t := 42) ?hr ?_; (case hd => rfl); (case hg => rfl); (case hr => first | (go_simp; done) | (go_simp; rfl))
               intro gb527 hg w36 hbox hb
               have HS4_ := (hb.cell (World.block_lt_of_cell? _ _ (hHeld.2.2.2.2))).trans (hHeld.2.2.2.2)
               have n0_ := Aside0.mk (Kd.R_below (ru HO_7.out) hb)
               have n1_ := Aside0.mk (Kd.R_below (ru HO_10.out) hb)
               have n2_ := Aside0.mk (Kd.R_below (ru HO_507003.out) hb)
               have n3_ := Aside0.mk (Kd.R_below (ru HO525.out) hb)
               have n4_ := Aside0.mk (blk_below (g := gb506) (o := .cells #[.complex .f32 t500.re t500.im, .complex .f32 t501.re t501.im, .complex .f32 t502.re t502.im, .slice Ao18 t503.length co18] 42 (0, 0)) (bu BK506.out) hb)
               have n5_ := Aside0.mk (below_step tb hb)
               have n6_ := Aside0.mk (hbox)
               have n7_ := Aside0.mk ((by rw [hg]; exact (below_size tb) : w.heap.size ≤ gb527))
               have n8_ := Aside0.mk ((by rw [hg]; exact (below_size tb) : w.heap.size ≤ gb527))
               have n9_ := Aside0.mk ((by rw [hg]; exact Nat.ne_of_lt (blk_lt (g := gb506) (o := .cells #[.complex .f32 t500.re t500.im, .complex .f32 t501.re t501.im, .complex .f32 t502.re t502.im, .slice Ao18 t503.length co18] 42 (0, 0)) (bu BK506.out)) : gb506 ≠ gb527))
               have n10_ := Aside0.mk ((by rw [hg]; exact Nat.ne_of_gt (blk_lt (g := gb506) (o := .cells #[.complex .f32 t500.re t500.im, .complex .f32 t501.re t501.im, .complex .f32 t502.re t502.im, .slice Ao18 t503.length co18] 42 (0, 0)) (bu BK506.out)) : gb527 ≠ gb506))
               clear HO_7
               clear HO_10
               clear HO_507003
               clear HO525
               clear BK506
               clear HB
               have HO_7 := n0_
               have HO_10 := n1_
               have HO_507003 := n2_
               have HO525 := n3_
               have BK506 := n4_
               have HB := n5_
               have BK527 := n6_
               have GW527 := n7_
               have GE527 := n8_
               have NB506_527 := n9_
               have NB527_506 := n10_
               clear n0_ n1_ n2_ n3_ n4_ n5_ n6_ n7_ n8_ n9_ n10_
               clear hb hbox hg
               refine hK.out _ _ ⟨(blk_cell BK506.out 0).trans rfl, (blk_cell BK506.out 1).trans rfl, (blk_cell BK506.out 2).trans rfl, (blk_cell BK506.out 3).trans rfl, HS4_⟩ (fun hHeld => ?_)
               clear hK K
               refine norm_ (a' := ?_) ?_ ?_
               rotate_left
               ·show Act.put _ (some 12) _ = _
                refine ps_ ?_
                rfl
               exact norm_ (by simp only [putAll, Act.put, List.setIfInBounds_toArray, List.set_cons_zero, List.set_cons_succ]) (hCont (v524, gb527) _ ⟨hHeld, (by refine ru ?_; exact Kd.R_mono HO525.out (fun _ hk => hk.2)), (ru HO_10.out), (by refine ru ?_; exact Kd.R_mono HO_507003.out (fun _ hk => hk.2)), (ru HO_7.out), (bu BK506.out), (bu BK527.out), GW527.out, GE527.out, NB506_527.out, NB527_506.out, tb⟩)
              ·skip
               refine box_step ?hg (N := 12) ?hd (cs := #[.complex .f32 0 0, .complex .f32 0 0, .complex .f32 0 0, .slice none 0 0]) (t := 42) ?hr ?_; (case hd => rfl); (case hg => rfl); (case hr => first | (go_simp; done) | (go_simp; rfl))
               intro gb527 hg w35 hbox hb
               have HS4_ := (hb.cell (World.block_lt_of_cell? _ _ (hHeld.2.2.2.2))).trans (hHeld.2.2.2.2)
               have n0_ := Aside0.mk (Kd.R_below (ru HO_7.out) hb)
               have n1_ := Aside0.mk (Kd.R_below (ru HO_10.out) hb)
               have n2_ := Aside0.mk (Kd.R_below (ru HO_507003.out) hb)
               have n3_ := Aside0.mk (blk_below (g := gb506) (o := .cells #[.complex .f32 t500.re t500.im, .complex .f32 t501.re t501.im, .complex .f32 t502.re t502.im, .slice Ao18 t503.length co18] 42 (0, 0)) (bu BK506.out) hb)
               have n4_ := Aside0.mk (below_step tb hb)
               have n5_ := Aside0.mk (hbox)
               have n6_ := Aside0.mk ((by rw [hg]; exact (below_size tb) : w.heap.size ≤ gb527))
               have n7_ := Aside0.mk ((by rw [hg]; exact (below_size tb) : w.heap.size ≤ gb527))
               have n8_ := Aside0.mk ((by rw [hg]; exact Nat.ne_of_lt (blk_lt (g := gb506) (o := .cells #[.complex .f32 t500.re t500.im, .complex .f32 t501.re t501.im, .complex .f32 t502.re t502.im, .slice Ao18 t503.length co18] 42 (0, 0)) (bu BK506.out)) : gb506 ≠ gb527))
               have n9_ := Aside0.mk ((by rw [hg]; exact Nat.ne_of_gt (blk_lt (g := gb506) (o := .cells #[.complex .f32 t500.re t500.im, .complex .f32 t501.re t501.im, .complex .f32 t502.re t502.im, .slice Ao18 t503.length co18] 42 (0, 0)) (bu BK506.out)) : gb527 ≠ gb506))
               clear HO_7
               clear HO_10
               clear HO_507003
               clear BK506
               clear HB
               have HO_7 := n0_
               have HO_10 := n1_
               have HO_507003 := n2_
               have BK506 := n3_
               have HB := n4_
               have BK527 := n5_
               have GW527 := n6_
               have GE527 := n7_
               have NB506_527 := n8_
               have NB527_506 := n9_
               clear n0_ n1_ n2_ n3_ n4_ n5_ n6_ n7_ n8_ n9_
               clear hb hbox hg
               refine hK.out _ _ ⟨(blk_cell BK506.out 0).trans rfl, (blk_cell BK506.out 1).trans rfl, (blk_cell BK506.out 2).trans rfl, (blk_cell BK506.out 3).trans rfl, HS4_⟩ (fun hHeld => ?_)
               clear hK K
               refine norm_ (a' := ?_) ?_ ?_
               rotate_left
               ·show Act.put _ (some 12) _ = _
                refine ps_ ?_
                rfl
               refine one_ (i := 6) (N := some 80) #[true, true, true, true, true, true, true, false, false, false, true, false, false] rfl rfl (one_of HT_.out (by kernel_rfl)) (by decide) (fun K hK => ?_)
               refine goes_ Try.func33 (by kernel_rfl) rfl #[.agg #[.complex .f32 t500.re t500.im, .complex .f32 t501.re t501.im, .complex .f32 t502.re t502.im, .slice Ao18 t503.length co18], .int .i64 t507, .float .f32 (rdOf (0 : Nat) y511 x70_2)] (by rfl) rfl rfl mp_ ?_
               with_reducible refine (impl_AddBank.calls k2 t500 t501 t502 _ _ t503 t507 (rdOf (0 : Nat) y511 x70_2) t520 t521 t522 t523 t526 _ ?side1 ?side2 A32.out).mono ?_
               (case side1 => exact cu ((Kd.R_reads' HO_507003.out).2.2))
               (case side2 => exact (Kd.R_reads' HO_507003.out).2.1)
               rintro e w36 ⟨v524, rfl, ho0, hb⟩
               have HS4_ := (hb.cell (World.block_lt_of_cell? _ _ (hHeld.2.2.2.2))).trans (hHeld.2.2.2.2)
               refine ⟨_, rfl, ?_⟩
               have n0_ := Aside0.mk (Kd.R_below (ru HO_7.out) hb)
               have n1_ := Aside0.mk (Kd.R_below (ru HO_10.out) hb)
               have n2_ := Aside0.mk (Kd.R_elder' (ru HO_507003.out) (Kd.R_base ho0) hb)
               have n3_ := Aside0.mk (Kd.R_lower (Kd.R_new' ho0 (Kd.R_lt (ru HO_507003.out))) (below_size tb))
               have n4_ := Aside0.mk (blk_below (g := gb506) (o := .cells #[.complex .f32 t500.re t500.im, .complex .f32 t501.re t501.im, .complex .f32 t502.re t502.im, .slice Ao18 t503.length co18] 42 (0, 0)) (bu BK506.out) hb)
               have n5_ := Aside0.mk (blk_below (g := gb527) (o := .cells #[.complex .f32 0 0, .complex .f32 0 0, .complex .f32 0 0, .slice none 0 0] 42 (0, 0)) (bu BK527.out) hb)
               have n6_ := Aside0.mk (below_step tb hb)
               clear HO_7
               clear HO_10
               clear HO_507003
               clear BK506
               clear BK527
               clear HB
               have HO_7 := n0_
               have HO_10 := n1_
               have HO_507003 := n2_
               have HO525 := n3_
               have BK506 := n4_
               have BK527 := n5_
               have HB := n6_
               clear n0_ n1_ n2_ n3_ n4_ n5_ n6_
               (try clear hb)
               (try clear hb2)
               (try clear hk)
               (try clear hi)
               (try clear ho0)
               refine hK.out _ _ ⟨(blk_cell BK506.out 0).trans rfl, (blk_cell BK506.out 1).trans rfl, (blk_cell BK506.out 2).trans rfl, (blk_cell BK506.out 3).trans rfl, HS4_⟩ (fun hHeld => ?_)
               clear hK K
               refine norm_ (a' := ?_) ?_ ?_
               rotate_left
               ·show Act.put _ (some 80) _ = _
                refine ps_ ?_
                rfl
               refine pure_ (i := 7) (N := some 73) (v := ?_) (a' := ?_) #[true, true, true, true, true, true, true, true, false, false, true, false, false] rfl rfl (any_of HT_.out (by kernel_rfl)) (fun _ _ _ h => h) (Or.inl ⟨by rfl, ?_⟩) ?_ ?_
               rotate_left
               ·intro w'
                go_simp
                with_reducible rfl
               rotate_left
               ·refine ps_ ?_
                rfl
               refine pure_ (i := 8) (N := some 81) (v := ?_) (a' := ?_) #[true, true, true, true, true, true, true, true, true, false, true, false, false] rfl rfl (any_of HT_.out (by kernel_rfl)) (fun _ _ _ h => h) (Or.inl ⟨by rfl, ?_⟩) ?_ ?_
               rotate_left
               ·intro w'
                go_simp
                with_reducible rfl
               rotate_left
               ·refine ps_ ?_
                rfl
               refine pure_ (i := 9) (N := some 82) (v := ?_) (a' := ?_) #[true, true, true, true, true, true, true, true, true, true, true, false, false] rfl rfl (any_of HT_.out (by kernel_rfl)) (fun _ _ _ h => h) (Or.inl ⟨by rfl, ?_⟩) ?_ ?_
               rotate_left
               ·intro w'
                go_simp
                with_reducible rfl
               rotate_left
               ·refine ps_ ?_
                rfl
               exact norm_ (by simp only [putAll, Act.put, List.setIfInBounds_toArray, List.set_cons_zero, List.set_cons_succ]) (hCont (v524, gb527) _ ⟨hHeld, (by refine ru ?_; exact Kd.R_mono HO525.out (fun _ hk => hk.2)), (ru HO_10.out), (by refine ru ?_; exact Kd.R_mono HO_507003.out (fun _ hk => hk.2)), (ru HO_7.out), (bu BK506.out), (bu BK527.out), GW527.out, GE527.out, NB506_527.out, NB527_506.out, tb⟩)
             rintro ⟨v524, gb527⟩ w37 ⟨hS_, h0_, h1_, h2_, h3_, h4_, h5_, h6_, h7_, h8_, h9_, h10_⟩
             have n0_ : Aside0 (Kd.R k66 66 w37 w.heap.size (fun k_ => some k_ ≠ (.slice Ao18 t503.length co18 : Value).ownBlock) v524 t523) := ⟨h0_⟩
             have n1_ : Aside0 (Kd.R Kd.f32 34 w37 w.heap.size (fun k_ => some k_ ≠ (.slice (some ad519) y511.length co22 : Value).ownBlock) u10 x10_2) := ⟨h1_⟩
             have n2_ : Aside0 (Kd.R k66 66 w37 w.heap.size (fun k_ => some k_ ≠ (v524 : Value).ownBlock) (.slice Ao18 t503.length co18) t503) := ⟨h2_⟩
             have n3_ : Aside0 (Kd.R Kd.f32 34 w37 w.heap.size (fun k_ => some k_ ≠ (u10 : Value).ownBlock) (.slice (some ad519) y511.length co22) y511) := ⟨h3_⟩
             have n4_ : Aside0 (w37.heap[gb506]? = some (.cells #[.complex .f32 t500.re t500.im, .complex .f32 t501.re t501.im, .complex .f32 t502.re t502.im, .slice Ao18 t503.length co18] 42 (0, 0))) := ⟨h4_⟩
             have n5_ : Aside0 (w37.heap[gb527]? = some (.cells #[.complex .f32 0 0, .complex .f32 0 0, .complex .f32 0 0, .slice none 0 0] 42 (0, 0))) := ⟨h5_⟩
             have n6_ : Aside0 (w.heap.size ≤ gb527) := ⟨h6_⟩
             have n7_ : Aside0 (w.heap.size ≤ gb527) := ⟨h7_⟩
             have n8_ : Aside0 (gb506 ≠ gb527) := ⟨h8_⟩
             have n9_ : Aside0 (gb527 ≠ gb506) := ⟨h9_⟩
             have n10_ : Aside0 (Below w.heap.size w w37) := ⟨h10_⟩
             clear HO_7
             clear HO_10
             clear HO_507003
             clear BK506
             clear HB
             clear h0_ h1_ h2_ h3_ h4_ h5_ h6_ h7_ h8_ h9_ h10_
             have HO525 := n0_
             have HO_10 := n1_
             have HO_507003 := n2_
             have HO_7 := n3_
             have BK506 := n4_
             have BK527 := n5_
             have GW527 := n6_
             have GE527 := n7_
             have NB506_527 := n8_
             have NB527_506 := n9_
             have HB := n10_
             clear n0_ n1_ n2_ n3_ n4_ n5_ n6_ n7_ n8_ n9_ n10_
             have hHeld : w37.cell? ⟨gb506, 0, none⟩ = some (.complex .f32 t500.re t500.im) ∧ w37.cell? ⟨gb506, 1, none⟩ = some (.complex .f32 t501.re t501.im) ∧ w37.cell? ⟨gb506, 2, none⟩ = some (.complex .f32 t502.re t502.im) ∧ w37.cell? ⟨gb506, 3, none⟩ = some (.slice Ao18 t503.length co18) ∧ w37.cell? (ad519.add (x70_2).toNat) = some (.float .f32 (rdOf (0 : Nat) y511 x70_2)) := hS_
             obtain ⟨Ao41, co41, eo41⟩ := Kd.R_slice HO525.out
             (first | subst eo41 | (injection eo41 with f1_ f2_ f3_; have f4_ := f1_.symm; have f5_ := f3_.symm; clear f1_ f2_ f3_; subst f4_; subst f5_))
             refine norm_ (a' := ?_) ?_ ?_
             rotate_left
             ·simp only [putAll, Act.put, List.setIfInBounds_toArray, List.set_cons_zero, List.set_cons_succ]
              rfl
             refine one_ (i := 11) (N := none) #[true, true, true, true, true, true, true, true, true, true, true, true, false] rfl rfl (one_of HT_.out (by kernel_rfl)) (by decide) (fun K hK => ?_)
             have hs38 : w37.cell? ⟨gb527, 0, none⟩ = some (.complex .f32 0 0) := (blk_cell BK527.out 0).trans rfl
             have hfs38 := blk_frozen BK527.out 0
             have hns38_0 := NB506_527.out
             have hms38_0 := NB527_506.out
             have hs39 : w37.cell? ⟨gb527, 1, none⟩ = some (.complex .f32 0 0) := (blk_cell BK527.out 1).trans rfl
             have hfs39 := blk_frozen BK527.out 1
             have hns39_0 := NB506_527.out
             have hms39_0 := NB527_506.out
             have hs40 : w37.cell? ⟨gb527, 2, none⟩ = some (.complex .f32 0 0) := (blk_cell BK527.out 2).trans rfl
             have hfs40 := blk_frozen BK527.out 2
             have hns40_0 := NB506_527.out
             have hms40_0 := NB527_506.out
             have hs42 : w37.cell? ⟨gb527, 3, none⟩ = some (.slice none 0 0) := (blk_cell BK527.out 3).trans rfl
             have hfs42 := blk_frozen BK527.out 3
             have hns42_0 := NB506_527.out
             have hms42_0 := NB527_506.out
             refine skip_ (w1 := ?_) (by rfl) rfl ?_ ?_
             rotate_left
             ·go_simp
              rfl
             refine hK.out _ _ ⟨((cell_far (p := ⟨gb527, _, none⟩) NB506_527.out _).trans (((cell_far (p := ⟨gb527, _, none⟩) NB506_527.out _).trans (((cell_far (p := ⟨gb527, _, none⟩) NB506_527.out _).trans (((cell_far (p := ⟨gb527, _, none⟩) NB506_527.out _).trans (hHeld.1)))))))), ((cell_far (p := ⟨gb527, _, none⟩) NB506_527.out _).trans (((cell_far (p := ⟨gb527, _, none⟩) NB506_527.out _).trans (((cell_far (p := ⟨gb527, _, none⟩) NB506_527.out _).trans (((cell_far (p := ⟨gb527, _, none⟩) NB506_527.out _).trans (hHeld.2.1)))))))), ((cell_far (p := ⟨gb527, _, none⟩) NB506_527.out _).trans (((cell_far (p := ⟨gb527, _, none⟩) NB506_527.out _).trans (((cell_far (p := ⟨gb527, _, none⟩) NB506_527.out _).trans (((cell_far (p := ⟨gb527, _, none⟩) NB506_527.out _).trans (hHeld.2.2.1)))))))), ((cell_far (p := ⟨gb527, _, none⟩) NB506_527.out _).trans (((cell_far (p := ⟨gb527, _, none⟩) NB506_527.out _).trans (((cell_far (p := ⟨gb527, _, none⟩) NB506_527.out _).trans (((cell_far (p := ⟨gb527, _, none⟩) NB506_527.out _).trans (hHeld.2.2.2.1)))))))), ((cell_far (p := ⟨gb527, _, none⟩) (by first | exact Kd.own_blk (Kd.R_ne HO_7.out BK527.out (by decide)) | (rw [add_block]; exact Kd.own_blk (Kd.R_ne HO_7.out BK527.out (by decide))) | (show (Addr.add _ _).block ≠ _; rw [add_block]; exact Kd.own_blk (Kd.R_ne HO_7.out BK527.out (by decide))) | (dsimp only; exact Kd.own_blk (Kd.R_ne HO_7.out BK527.out (by decide)))) _).trans (((cell_far (p := ⟨gb527, _, none⟩) (by first | exact Kd.own_blk (Kd.R_ne HO_7.out BK527.out (by decide)) | (rw [add_block]; exact Kd.own_blk (Kd.R_ne HO_7.out BK527.out (by decide))) | (show (Addr.add _ _).block ≠ _; rw [add_block]; exact Kd.own_blk (Kd.R_ne HO_7.out BK527.out (by decide))) | (dsimp only; exact Kd.own_blk (Kd.R_ne HO_7.out BK527.out (by decide)))) _).trans (((cell_far (p := ⟨gb527, _, none⟩) (by first | exact Kd.own_blk (Kd.R_ne HO_7.out BK527.out (by decide)) | (rw [add_block]; exact Kd.own_blk (Kd.R_ne HO_7.out BK527.out (by decide))) | (show (Addr.add _ _).block ≠ _; rw [add_block]; exact Kd.own_blk (Kd.R_ne HO_7.out BK527.out (by decide))) | (dsimp only; exact Kd.own_blk (Kd.R_ne HO_7.out BK527.out (by decide)))) _).trans (((cell_far (p := ⟨gb527, _, none⟩) (by first | exact Kd.own_blk (Kd.R_ne HO_7.out BK527.out (by decide)) | (rw [add_block]; exact Kd.own_blk (Kd.R_ne HO_7.out BK527.out (by decide))) | (show (Addr.add _ _).block ≠ _; rw [add_block]; exact Kd.own_blk (Kd.R_ne HO_7.out BK527.out (by decide))) | (dsimp only; exact Kd.own_blk (Kd.R_ne HO_7.out BK527.out (by decide)))) _).trans (hHeld.2.2.2.2))))))))⟩ (fun hHeld => ?_)
             clear hK K
             refine pure_ (i := 12) (N := some 13) (v := ?_) (a' := ?_) #[true, true, true, true, true, true, true, true, true, true, true, true, true] rfl rfl (any_of HT_.out (by kernel_rfl)) (fun _ _ _ h => h) (Or.inl ⟨by rfl, ?_⟩) ?_ ?_
             rotate_left
             ·intro w'
              go_simp
              with_reducible rfl
             rotate_left
             ·refine ps_ ?_
              rfl
             refine done_ (done_of HT_.out (by kernel_rfl)) ?_
             go_upto_region 14 with (fail)
             go_cut [111] (fun v111 wc => ∃ (kq : Nat) (x111_32 : Bool), v111 = .bool x111_32 ∧ Aside0 (laws_FnBanks.j2 kq t507 y511 t514 x10_2 (y511.length : Int) x70_2 x111_32 t500 t501 t502 t503 t520 t521 t522 t523 = some r) ∧ Aside0 (kq ≤ k2) ∧ Aside0 (Kd.R Kd.f32 34 wc w.heap.size (fun k_ => some k_ ≠ (u10 : Value).ownBlock) (.slice (some ad519) y511.length co22) y511) ∧ Aside0 (Kd.R Kd.f32 34 wc w.heap.size (fun k_ => some k_ ≠ ((.slice (some ad519) y511.length co22) : Value).ownBlock) u10 x10_2) ∧ Aside0 (Kd.R k66 66 wc w.heap.size (fun k_ => some k_ ≠ ((.slice Ao41 t523.length co41) : Value).ownBlock) (.slice Ao18 t503.length co18) t503) ∧ Aside0 (Kd.R k66 66 wc w.heap.size (fun k_ => some k_ ≠ ((.slice Ao18 t503.length co18) : Value).ownBlock) (.slice Ao41 t523.length co41) t523) ∧ Aside0 (wc.heap[gb506]? = some (.cells #[.complex .f32 t500.re t500.im, .complex .f32 t501.re t501.im, .complex .f32 t502.re t502.im, (.slice Ao18 t503.length co18)] 42 (0, 0))) ∧ Aside0 (wc.heap[gb527]? = some (.cells #[.complex .f32 t520.re t520.im, .complex .f32 t521.re t521.im, .complex .f32 t522.re t522.im, (.slice Ao41 t523.length co41)] 42 (0, 0))) ∧ Aside0 (Below w.heap.size w wc))
             case first =>
              have H := HC33.out
              clear HC33
              by_cases c43 : t526 = true
              ·subst c43
               rw [if_pos rfl] at H; try dsimp only at H
               replace H := Option.bind_eq_some_iff.mp H
               obtain ⟨t528, A440, H⟩ := H
               try dsimp only at H
               have A44 := Aside0.mk A440
               clear A440
               by_cases c45 : t528 = true
               ·subst c45
                rw [if_pos rfl] at H; try dsimp only at H
                by_cases c46 : (t523.length : Int) = (wrap64 ((t503.length : Int) + 1))
                ·rw [if_pos c46] at H
                 have c46b0 : ((t523.length : Int) == (wrap64 ((t503.length : Int) + 1))) = true := beq_iff_eq.mpr c46
                 have c46b1 : ((t523.length : Int) != (wrap64 ((t503.length : Int) + 1))) = false := bne_eq_false_iff_eq.mpr c46
                 clear c46
                 (first | rw [c46b0] | (simp only [i64_w, i32_w]; rw [c46b0]) | skip)
                 by_cases c47 : 0 ≤ (t503.length : Int)
                 ·rw [if_pos c47] at H
                  have c47b0 : decide (0 ≤ (t503.length : Int)) = true := decide_eq_true c47
                  have c47b1 : decide (0 ≤ t503.length) = true := decide_eq_true (by omega)
                  clear c47
                  by_cases c48 : (t503.length : Int) < (t523.length : Int)
                  ·rw [if_pos c48] at H
                   have c48b0 : decide ((t503.length : Int) < (t523.length : Int)) = true := decide_eq_true c48
                   have c48b1 : decide (t503.length < t523.length) = true := decide_eq_true (Int.ofNat_lt.mp c48)
                   clear c48
                   as_aux_lemma =>
                    have H' := Aside0.mk H
                    clear H
                    have hnb49 := NB527_506.out
                    have hnc49 := NB506_527.out
                    have hcz50_0 : w37.cell? ⟨gb527, 0, none⟩ = some (.complex .f32 0 0) := (blk_cell BK527.out 0).trans rfl
                    have hcz50_1 : w37.cell? ⟨gb527, 1, none⟩ = some (.complex .f32 0 0) := (blk_cell BK527.out 1).trans rfl
                    have hcz50_2 : w37.cell? ⟨gb527, 2, none⟩ = some (.complex .f32 0 0) := (blk_cell BK527.out 2).trans rfl
                    have hcz50_3 : w37.cell? ⟨gb527, 3, none⟩ = some (.slice none 0 0) := (blk_cell BK527.out 3).trans rfl
                    have hfz50_0 := blk_frozen BK527.out 0
                    have hfz50_1 := blk_frozen BK527.out 1
                    have hfz50_2 := blk_frozen BK527.out 2
                    have hfz50_3 := blk_frozen BK527.out 3
                    go_wp2_with (first | (go_at_call 34; (with_reducible refine (impl_ValidFeeder.calls k2 t520 t521 t522 _ _ t523 true _ ?side1 ?side2 A44.out).mono ?_); (case side1 => refine (Kd.R_reads' (e := 66) (base := w.heap.size) (ok := fun k_ => some k_ ≠ (.slice Ao18 t503.length co18 : Value).ownBlock) (n := t523.length) (c := co41) ?_).2.2; exact (by refine ru ?_; exact (Kd.R_mono (Kd.R_far (p := ⟨gb527, 3, none⟩) (Kd.R_far (p := ⟨gb527, 2, none⟩) (Kd.R_far (p := ⟨gb527, 1, none⟩) (Kd.R_far (p := ⟨gb527, 0, none⟩) (Kd.R_types HO525.out BK527.out (by decide)) (fun _ hk => hk.2) (.complex .f32 t520.re t520.im)) (fun _ hk => hk.2) (.complex .f32 t521.re t521.im)) (fun _ hk => hk.2) (.complex .f32 t522.re t522.im)) (fun _ hk => hk.2) (.slice Ao41 t523.length co41)) (fun _ h_ => h_.1)))); (case side2 => exact (Kd.R_reads' HO525.out).2.1); rintro e w51 ⟨rfl, hb⟩; have n0_ := Aside0.mk (Kd.R_below (by refine ru ?_; exact (Kd.R_mono (Kd.R_far (p := ⟨gb527, 3, none⟩) (Kd.R_far (p := ⟨gb527, 2, none⟩) (Kd.R_far (p := ⟨gb527, 1, none⟩) (Kd.R_far (p := ⟨gb527, 0, none⟩) (Kd.R_types HO_7.out BK527.out (by decide)) (fun _ hk => hk.2) (.complex .f32 t520.re t520.im)) (fun _ hk => hk.2) (.complex .f32 t521.re t521.im)) (fun _ hk => hk.2) (.complex .f32 t522.re t522.im)) (fun _ hk => hk.2) (.slice Ao41 t523.length co41)) (fun _ h_ => h_.1))) hb); have n1_ := Aside0.mk (Kd.R_below (by refine ru ?_; exact (Kd.R_mono (Kd.R_far (p := ⟨gb527, 3, none⟩) (Kd.R_far (p := ⟨gb527, 2, none⟩) (Kd.R_far (p := ⟨gb527, 1, none⟩) (Kd.R_far (p := ⟨gb527, 0, none⟩) (Kd.R_types HO_10.out BK527.out (by decide)) (fun _ hk => hk.2) (.complex .f32 t520.re t520.im)) (fun _ hk => hk.2) (.complex .f32 t521.re t521.im)) (fun _ hk => hk.2) (.complex .f32 t522.re t522.im)) (fun _ hk => hk.2) (.slice Ao41 t523.length co41)) (fun _ h_ => h_.1))) hb); have n2_ := Aside0.mk (Kd.R_below (by refine ru ?_; exact (Kd.R_mono (Kd.R_far (p := ⟨gb527, 3, none⟩) (Kd.R_far (p := ⟨gb527, 2, none⟩) (Kd.R_far (p := ⟨gb527, 1, none⟩) (Kd.R_far (p := ⟨gb527, 0, none⟩) (Kd.R_types HO_507003.out BK527.out (by decide)) (fun _ hk => hk.2) (.complex .f32 t520.re t520.im)) (fun _ hk => hk.2) (.complex .f32 t521.re t521.im)) (fun _ hk => hk.2) (.complex .f32 t522.re t522.im)) (fun _ hk => hk.2) (.slice Ao41 t523.length co41)) (fun _ h_ => h_.1))) hb); have n3_ := Aside0.mk (Kd.R_below (by refine ru ?_; exact (Kd.R_mono (Kd.R_far (p := ⟨gb527, 3, none⟩) (Kd.R_far (p := ⟨gb527, 2, none⟩) (Kd.R_far (p := ⟨gb527, 1, none⟩) (Kd.R_far (p := ⟨gb527, 0, none⟩) (Kd.R_types HO525.out BK527.out (by decide)) (fun _ hk => hk.2) (.complex .f32 t520.re t520.im)) (fun _ hk => hk.2) (.complex .f32 t521.re t521.im)) (fun _ hk => hk.2) (.complex .f32 t522.re t522.im)) (fun _ hk => hk.2) (.slice Ao41 t523.length co41)) (fun _ h_ => h_.1))) hb); have n4_ := Aside0.mk (blk_below (g := gb506) (o := .cells #[.complex .f32 t500.re t500.im, .complex .f32 t501.re t501.im, .complex .f32 t502.re t502.im, .slice Ao18 t503.length co18] 42 (0, 0)) (bv BK506.out) hb); have n5_ := Aside0.mk (blk_below (g := gb527) (o := .cells #[.complex .f32 t520.re t520.im, .complex .f32 t521.re t521.im, .complex .f32 t522.re t522.im, .slice Ao41 t523.length co41] 42 (0, 0)) (by refine bu ?_; refine blk_put (cs := #[.complex .f32 t520.re t520.im, .complex .f32 t521.re t521.im, .complex .f32 t522.re t522.im, .slice none 0 0]) ?_ 3 _ rfl; refine bu ?_; refine blk_put (cs := #[.complex .f32 t520.re t520.im, .complex .f32 t521.re t521.im, .complex .f32 0 0, .slice none 0 0]) ?_ 2 _ rfl; refine bu ?_; refine blk_put (cs := #[.complex .f32 t520.re t520.im, .complex .f32 0 0, .complex .f32 0 0, .slice none 0 0]) ?_ 1 _ rfl; refine bu ?_; refine blk_put (cs := #[.complex .f32 0 0, .complex .f32 0 0, .complex .f32 0 0, .slice none 0 0]) ?_ 0 _ rfl; refine bu ?_; exact BK527.out) hb); have n6_ := Aside0.mk (below_step tb hb); clear HO_7; clear HO_10; clear HO_507003; clear HO525; clear BK506; clear BK527; clear HB; have HO_7 := n0_; have HO_10 := n1_; have HO_507003 := n2_; have HO525 := n3_; have BK506 := n4_; have BK527 := n5_; have HB := n6_; clear n0_ n1_ n2_ n3_ n4_ n5_ n6_; (try clear hb); (try clear hb2); (try clear hk); (try clear hi); have hcz52_0 : w51.cell? ⟨gb527, 0, none⟩ = some (.complex .f32 t520.re t520.im) := (blk_cell BK527.out 0).trans rfl; have hcz52_1 : w51.cell? ⟨gb527, 1, none⟩ = some (.complex .f32 t521.re t521.im) := (blk_cell BK527.out 1).trans rfl; have hcz52_2 : w51.cell? ⟨gb527, 2, none⟩ = some (.complex .f32 t522.re t522.im) := (blk_cell BK527.out 2).trans rfl; have hcz52_3 : w51.cell? ⟨gb527, 3, none⟩ = some (.slice Ao41 t523.length co41) := (blk_cell BK527.out 3).trans rfl; have hfz52_0 := blk_frozen BK527.out 0; have hfz52_1 := blk_frozen BK527.out 1; have hfz52_2 := blk_frozen BK527.out 2; have hfz52_3 := blk_frozen BK527.out 3; have hcz53_0 : w51.cell? ⟨gb506, 0, none⟩ = some (.complex .f32 t500.re t500.im) := (blk_cell BK506.out 0).trans rfl; have hcz53_1 : w51.cell? ⟨gb506, 1, none⟩ = some (.complex .f32 t501.re t501.im) := (blk_cell BK506.out 1).trans rfl; have hcz53_2 : w51.cell? ⟨gb506, 2, none⟩ = some (.complex .f32 t502.re t502.im) := (blk_cell BK506.out 2).trans rfl; have hcz53_3 : w51.cell? ⟨gb506, 3, none⟩ = some (.slice Ao18 t503.length co18) := (blk_cell BK506.out 3).trans rfl; have hfz53_0 := blk_frozen BK506.out 0; have hfz53_1 := blk_frozen BK506.out 1; have hfz53_2 := blk_frozen BK506.out 2; have hfz53_3 := blk_frozen BK506.out 3; have p529 : 0 ≤ ((t503.length : Int) : Int) := of_decide_eq_true (by first | (with_reducible assumption) | assumption); have q529 : (t503.length : Int) < (t523.length : Int) := of_decide_eq_true (by first | (with_reducible assumption) | assumption); obtain ⟨ad529, e529, hx529_0, hx529_1, hx529_2, hx529_3, hx529_4, hx529_5, hx529_6, hx529_7⟩ := at_T66 (Kd.R_reads' HO525.out).2.2 (t503.length : Int) p529 q529; cases e529; (try simp only [Go.IntWalk.toNatUp] at hx529_0); (try simp only [Go.IntWalk.toNatUp] at hx529_1); (try simp only [Go.IntWalk.toNatUp] at hx529_2); (try simp only [Go.IntWalk.toNatUp] at hx529_3); (try simp only [Go.IntWalk.toNatUp] at hx529_4); (try simp only [Go.IntWalk.toNatUp] at hx529_5); (try simp only [Go.IntWalk.toNatUp] at hx529_6); (try simp only [Go.IntWalk.toNatUp] at hx529_7); replace p529 := eq_true p529; replace q529 := eq_true q529))
                    go_meet
                    case rel => exact ⟨_, ((((rd_T66 t523 (t503.length : Int)).f0) != t507)), rs_, H', ⟨by have := HJ13.out; have := HK2.out; exact om_⟩, ⟨by refine ru ?_; exact HO_7.out⟩, ⟨by refine ru ?_; exact HO_10.out⟩, ⟨by refine ru ?_; exact HO_507003.out⟩, ⟨by refine ru ?_; exact HO525.out⟩, ⟨by refine bu ?_; exact BK506.out⟩, ⟨by refine bu ?_; exact BK527.out⟩, ⟨tb⟩⟩
                  ·rw [if_neg c48] at H
                   exact absurd H (by simp)
                 ·rw [if_neg c47] at H
                  exact absurd H (by simp)
                ·rw [if_neg c46] at H
                 have c46b0 : ((t523.length : Int) == (wrap64 ((t503.length : Int) + 1))) = false := beq_eq_false_iff_ne.mpr c46
                 have c46b1 : ((t523.length : Int) != (wrap64 ((t503.length : Int) + 1))) = true := bne_iff_ne.mpr c46
                 (first | rw [c46b0] | (simp only [i64_w, i32_w]; rw [c46b0]) | skip)
                 as_aux_lemma =>
                  have H' := Aside0.mk H
                  clear H
                  have hnb54 := NB527_506.out
                  have hnc54 := NB506_527.out
                  have hcz55_0 : w37.cell? ⟨gb527, 0, none⟩ = some (.complex .f32 0 0) := (blk_cell BK527.out 0).trans rfl
                  have hcz55_1 : w37.cell? ⟨gb527, 1, none⟩ = some (.complex .f32 0 0) := (blk_cell BK527.out 1).trans rfl
                  have hcz55_2 : w37.cell? ⟨gb527, 2, none⟩ = some (.complex .f32 0 0) := (blk_cell BK527.out 2).trans rfl
                  have hcz55_3 : w37.cell? ⟨gb527, 3, none⟩ = some (.slice none 0 0) := (blk_cell BK527.out 3).trans rfl
                  have hfz55_0 := blk_frozen BK527.out 0
                  have hfz55_1 := blk_frozen BK527.out 1
                  have hfz55_2 := blk_frozen BK527.out 2
                  have hfz55_3 := blk_frozen BK527.out 3
                  go_wp2_with (first | (go_at_call 34; (with_reducible refine (impl_ValidFeeder.calls k2 t520 t521 t522 _ _ t523 true _ ?side1 ?side2 A44.out).mono ?_); (case side1 => refine (Kd.R_reads' (e := 66) (base := w.heap.size) (ok := fun k_ => some k_ ≠ (.slice Ao18 t503.length co18 : Value).ownBlock) (n := t523.length) (c := co41) ?_).2.2; exact (by refine ru ?_; exact (Kd.R_mono (Kd.R_far (p := ⟨gb527, 3, none⟩) (Kd.R_far (p := ⟨gb527, 2, none⟩) (Kd.R_far (p := ⟨gb527, 1, none⟩) (Kd.R_far (p := ⟨gb527, 0, none⟩) (Kd.R_types HO525.out BK527.out (by decide)) (fun _ hk => hk.2) (.complex .f32 t520.re t520.im)) (fun _ hk => hk.2) (.complex .f32 t521.re t521.im)) (fun _ hk => hk.2) (.complex .f32 t522.re t522.im)) (fun _ hk => hk.2) (.slice Ao41 t523.length co41)) (fun _ h_ => h_.1)))); (case side2 => exact (Kd.R_reads' HO525.out).2.1); rintro e w56 ⟨rfl, hb⟩; have n0_ := Aside0.mk (Kd.R_below (by refine ru ?_; exact (Kd.R_mono (Kd.R_far (p := ⟨gb527, 3, none⟩) (Kd.R_far (p := ⟨gb527, 2, none⟩) (Kd.R_far (p := ⟨gb527, 1, none⟩) (Kd.R_far (p := ⟨gb527, 0, none⟩) (Kd.R_types HO_7.out BK527.out (by decide)) (fun _ hk => hk.2) (.complex .f32 t520.re t520.im)) (fun _ hk => hk.2) (.complex .f32 t521.re t521.im)) (fun _ hk => hk.2) (.complex .f32 t522.re t522.im)) (fun _ hk => hk.2) (.slice Ao41 t523.length co41)) (fun _ h_ => h_.1))) hb); have n1_ := Aside0.mk (Kd.R_below (by refine ru ?_; exact (Kd.R_mono (Kd.R_far (p := ⟨gb527, 3, none⟩) (Kd.R_far (p := ⟨gb527, 2, none⟩) (Kd.R_far (p := ⟨gb527, 1, none⟩) (Kd.R_far (p := ⟨gb527, 0, none⟩) (Kd.R_types HO_10.out BK527.out (by decide)) (fun _ hk => hk.2) (.complex .f32 t520.re t520.im)) (fun _ hk => hk.2) (.complex .f32 t521.re t521.im)) (fun _ hk => hk.2) (.complex .f32 t522.re t522.im)) (fun _ hk => hk.2) (.slice Ao41 t523.length co41)) (fun _ h_ => h_.1))) hb); have n2_ := Aside0.mk (Kd.R_below (by refine ru ?_; exact (Kd.R_mono (Kd.R_far (p := ⟨gb527, 3, none⟩) (Kd.R_far (p := ⟨gb527, 2, none⟩) (Kd.R_far (p := ⟨gb527, 1, none⟩) (Kd.R_far (p := ⟨gb527, 0, none⟩) (Kd.R_types HO_507003.out BK527.out (by decide)) (fun _ hk => hk.2) (.complex .f32 t520.re t520.im)) (fun _ hk => hk.2) (.complex .f32 t521.re t521.im)) (fun _ hk => hk.2) (.complex .f32 t522.re t522.im)) (fun _ hk => hk.2) (.slice Ao41 t523.length co41)) (fun _ h_ => h_.1))) hb); have n3_ := Aside0.mk (Kd.R_below (by refine ru ?_; exact (Kd.R_mono (Kd.R_far (p := ⟨gb527, 3, none⟩) (Kd.R_far (p := ⟨gb527, 2, none⟩) (Kd.R_far (p := ⟨gb527, 1, none⟩) (Kd.R_far (p := ⟨gb527, 0, none⟩) (Kd.R_types HO525.out BK527.out (by decide)) (fun _ hk => hk.2) (.complex .f32 t520.re t520.im)) (fun _ hk => hk.2) (.complex .f32 t521.re t521.im)) (fun _ hk => hk.2) (.complex .f32 t522.re t522.im)) (fun _ hk => hk.2) (.slice Ao41 t523.length co41)) (fun _ h_ => h_.1))) hb); have n4_ := Aside0.mk (blk_below (g := gb506) (o := .cells #[.complex .f32 t500.re t500.im, .complex .f32 t501.re t501.im, .complex .f32 t502.re t502.im, .slice Ao18 t503.length co18] 42 (0, 0)) (bv BK506.out) hb); have n5_ := Aside0.mk (blk_below (g := gb527) (o := .cells #[.complex .f32 t520.re t520.im, .complex .f32 t521.re t521.im, .complex .f32 t522.re t522.im, .slice Ao41 t523.length co41] 42 (0, 0)) (by refine bu ?_; refine blk_put (cs := #[.complex .f32 t520.re t520.im, .complex .f32 t521.re t521.im, .complex .f32 t522.re t522.im, .slice none 0 0]) ?_ 3 _ rfl; refine bu ?_; refine blk_put (cs := #[.complex .f32 t520.re t520.im, .complex .f32 t521.re t521.im, .complex .f32 0 0, .slice none 0 0]) ?_ 2 _ rfl; refine bu ?_; refine blk_put (cs := #[.complex .f32 t520.re t520.im, .complex .f32 0 0, .complex .f32 0 0, .slice none 0 0]) ?_ 1 _ rfl; refine bu ?_; refine blk_put (cs := #[.complex .f32 0 0, .complex .f32 0 0, .complex .f32 0 0, .slice none 0 0]) ?_ 0 _ rfl; refine bu ?_; exact BK527.out) hb); have n6_ := Aside0.mk (below_step tb hb); clear HO_7; clear HO_10; clear HO_507003; clear HO525; clear BK506; clear BK527; clear HB; have HO_7 := n0_; have HO_10 := n1_; have HO_507003 := n2_; have HO525 := n3_; have BK506 := n4_; have BK527 := n5_; have HB := n6_; clear n0_ n1_ n2_ n3_ n4_ n5_ n6_; (try clear hb); (try clear hb2); (try clear hk); (try clear hi); have hcz57_0 : w56.cell? ⟨gb527, 0, none⟩ = some (.complex .f32 t520.re t520.im) := (blk_cell BK527.out 0).trans rfl; have hcz57_1 : w56.cell? ⟨gb527, 1, none⟩ = some (.complex .f32 t521.re t521.im) := (blk_cell BK527.out 1).trans rfl; have hcz57_2 : w56.cell? ⟨gb527, 2, none⟩ = some (.complex .f32 t522.re t522.im) := (blk_cell BK527.out 2).trans rfl; have hcz57_3 : w56.cell? ⟨gb527, 3, none⟩ = some (.slice Ao41 t523.length co41) := (blk_cell BK527.out 3).trans rfl; have hfz57_0 := blk_frozen BK527.out 0; have hfz57_1 := blk_frozen BK527.out 1; have hfz57_2 := blk_frozen BK527.out 2; have hfz57_3 := blk_frozen BK527.out 3; have hcz58_0 : w56.cell? ⟨gb506, 0, none⟩ = some (.complex .f32 t500.re t500.im) := (blk_cell BK506.out 0).trans rfl; have hcz58_1 : w56.cell? ⟨gb506, 1, none⟩ = some (.complex .f32 t501.re t501.im) := (blk_cell BK506.out 1).trans rfl; have hcz58_2 : w56.cell? ⟨gb506, 2, none⟩ = some (.complex .f32 t502.re t502.im) := (blk_cell BK506.out 2).trans rfl; have hcz58_3 : w56.cell? ⟨gb506, 3, none⟩ = some (.slice Ao18 t503.length co18) := (blk_cell BK506.out 3).trans rfl; have hfz58_0 := blk_frozen BK506.out 0; have hfz58_1 := blk_frozen BK506.out 1; have hfz58_2 := blk_frozen BK506.out 2; have hfz58_3 := blk_frozen BK506.out 3))
                  go_meet
                  case rel => exact ⟨_, (true), rs_, H', ⟨by have := HJ13.out; have := HK2.out; exact om_⟩, ⟨by refine ru ?_; exact HO_7.out⟩, ⟨by refine ru ?_; exact HO_10.out⟩, ⟨by refine ru ?_; exact HO_507003.out⟩, ⟨by refine ru ?_; exact HO525.out⟩, ⟨by refine bu ?_; exact BK506.out⟩, ⟨by refine bu ?_; exact BK527.out⟩, ⟨tb⟩⟩
               ·replace c45 := Bool.eq_false_iff.mpr c45
                subst c45
                have H1 : (laws_FnBanks.j2 k2 t507 y511 t514 x10_2 (y511.length : Int) x70_2 true t500 t501 t502 t503 t520 t521 t522 t523) = some r := by rw [if_neg (show ¬ (false = true) by decide)] at H; exact H
                clear H
                have H := H1
                clear H1
                as_aux_lemma =>
                 have H' := Aside0.mk H
                 clear H
                 have hnb59 := NB527_506.out
                 have hnc59 := NB506_527.out
                 have hcz60_0 : w37.cell? ⟨gb527, 0, none⟩ = some (.complex .f32 0 0) := (blk_cell BK527.out 0).trans rfl
                 have hcz60_1 : w37.cell? ⟨gb527, 1, none⟩ = some (.complex .f32 0 0) := (blk_cell BK527.out 1).trans rfl
                 have hcz60_2 : w37.cell? ⟨gb527, 2, none⟩ = some (.complex .f32 0 0) := (blk_cell BK527.out 2).trans rfl
                 have hcz60_3 : w37.cell? ⟨gb527, 3, none⟩ = some (.slice none 0 0) := (blk_cell BK527.out 3).trans rfl
                 have hfz60_0 := blk_frozen BK527.out 0
                 have hfz60_1 := blk_frozen BK527.out 1
                 have hfz60_2 := blk_frozen BK527.out 2
                 have hfz60_3 := blk_frozen BK527.out 3
                 go_wp2_with (first | (go_at_call 34; (with_reducible refine (impl_ValidFeeder.calls k2 t520 t521 t522 _ _ t523 false _ ?side1 ?side2 A44.out).mono ?_); (case side1 => refine (Kd.R_reads' (e := 66) (base := w.heap.size) (ok := fun k_ => some k_ ≠ (.slice Ao18 t503.length co18 : Value).ownBlock) (n := t523.length) (c := co41) ?_).2.2; exact (by refine ru ?_; exact (Kd.R_mono (Kd.R_far (p := ⟨gb527, 3, none⟩) (Kd.R_far (p := ⟨gb527, 2, none⟩) (Kd.R_far (p := ⟨gb527, 1, none⟩) (Kd.R_far (p := ⟨gb527, 0, none⟩) (Kd.R_types HO525.out BK527.out (by decide)) (fun _ hk => hk.2) (.complex .f32 t520.re t520.im)) (fun _ hk => hk.2) (.complex .f32 t521.re t521.im)) (fun _ hk => hk.2) (.complex .f32 t522.re t522.im)) (fun _ hk => hk.2) (.slice Ao41 t523.length co41)) (fun _ h_ => h_.1)))); (case side2 => exact (Kd.R_reads' HO525.out).2.1); rintro e w61 ⟨rfl, hb⟩; have n0_ := Aside0.mk (Kd.R_below (by refine ru ?_; exact (Kd.R_mono (Kd.R_far (p := ⟨gb527, 3, none⟩) (Kd.R_far (p := ⟨gb527, 2, none⟩) (Kd.R_far (p := ⟨gb527, 1, none⟩) (Kd.R_far (p := ⟨gb527, 0, none⟩) (Kd.R_types HO_7.out BK527.out (by decide)) (fun _ hk => hk.2) (.complex .f32 t520.re t520.im)) (fun _ hk => hk.2) (.complex .f32 t521.re t521.im)) (fun _ hk => hk.2) (.complex .f32 t522.re t522.im)) (fun _ hk => hk.2) (.slice Ao41 t523.length co41)) (fun _ h_ => h_.1))) hb); have n1_ := Aside0.mk (Kd.R_below (by refine ru ?_; exact (Kd.R_mono (Kd.R_far (p := ⟨gb527, 3, none⟩) (Kd.R_far (p := ⟨gb527, 2, none⟩) (Kd.R_far (p := ⟨gb527, 1, none⟩) (Kd.R_far (p := ⟨gb527, 0, none⟩) (Kd.R_types HO_10.out BK527.out (by decide)) (fun _ hk => hk.2) (.complex .f32 t520.re t520.im)) (fun _ hk => hk.2) (.complex .f32 t521.re t521.im)) (fun _ hk => hk.2) (.complex .f32 t522.re t522.im)) (fun _ hk => hk.2) (.slice Ao41 t523.length co41)) (fun _ h_ => h_.1))) hb); have n2_ := Aside0.mk (Kd.R_below (by refine ru ?_; exact (Kd.R_mono (Kd.R_far (p := ⟨gb527, 3, none⟩) (Kd.R_far (p := ⟨gb527, 2, none⟩) (Kd.R_far (p := ⟨gb527, 1, none⟩) (Kd.R_far (p := ⟨gb527, 0, none⟩) (Kd.R_types HO_507003.out BK527.out (by decide)) (fun _ hk => hk.2) (.complex .f32 t520.re t520.im)) (fun _ hk => hk.2) (.complex .f32 t521.re t521.im)) (fun _ hk => hk.2) (.complex .f32 t522.re t522.im)) (fun _ hk => hk.2) (.slice Ao41 t523.length co41)) (fun _ h_ => h_.1))) hb); have n3_ := Aside0.mk (Kd.R_below (by refine ru ?_; exact (Kd.R_mono (Kd.R_far (p := ⟨gb527, 3, none⟩) (Kd.R_far (p := ⟨gb527, 2, none⟩) (Kd.R_far (p := ⟨gb527, 1, none⟩) (Kd.R_far (p := ⟨gb527, 0, none⟩) (Kd.R_types HO525.out BK527.out (by decide)) (fun _ hk => hk.2) (.complex .f32 t520.re t520.im)) (fun _ hk => hk.2) (.complex .f32 t521.re t521.im)) (fun _ hk => hk.2) (.complex .f32 t522.re t522.im)) (fun _ hk => hk.2) (.slice Ao41 t523.length co41)) (fun _ h_ => h_.1))) hb); have n4_ := Aside0.mk (blk_below (g := gb506) (o := .cells #[.complex .f32 t500.re t500.im, .complex .f32 t501.re t501.im, .complex .f32 t502.re t502.im, .slice Ao18 t503.length co18] 42 (0, 0)) (bv BK506.out) hb); have n5_ := Aside0.mk (blk_below (g := gb527) (o := .cells #[.complex .f32 t520.re t520.im, .complex .f32 t521.re t521.im, .complex .f32 t522.re t522.im, .slice Ao41 t523.length co41] 42 (0, 0)) (by refine bu ?_; refine blk_put (cs := #[.complex .f32 t520.re t520.im, .complex .f32 t521.re t521.im, .complex .f32 t522.re t522.im, .slice none 0 0]) ?_ 3 _ rfl; refine bu ?_; refine blk_put (cs := #[.complex .f32 t520.re t520.im, .complex .f32 t521.re t521.im, .complex .f32 0 0, .slice none 0 0]) ?_ 2 _ rfl; refine bu ?_; refine blk_put (cs := #[.complex .f32 t520.re t520.im, .complex .f32 0 0, .complex .f32 0 0, .slice none 0 0]) ?_ 1 _ rfl; refine bu ?_; refine blk_put (cs := #[.complex .f32 0 0, .complex .f32 0 0, .complex .f32 0 0, .slice none 0 0]) ?_ 0 _ rfl; refine bu ?_; exact BK527.out) hb); have n6_ := Aside0.mk (below_step tb hb); clear HO_7; clear HO_10; clear HO_507003; clear HO525; clear BK506; clear BK527; clear HB; have HO_7 := n0_; have HO_10 := n1_; have HO_507003 := n2_; have HO525 := n3_; have BK506 := n4_; have BK527 := n5_; have HB := n6_; clear n0_ n1_ n2_ n3_ n4_ n5_ n6_; (try clear hb); (try clear hb2); (try clear hk); (try clear hi)))
                 go_meet
                 case rel => exact ⟨_, (true), rs_, H', ⟨by have := HJ13.out; have := HK2.out; exact om_⟩, ⟨by refine ru ?_; exact HO_7.out⟩, ⟨by refine ru ?_; exact HO_10.out⟩, ⟨by refine ru ?_; exact HO_507003.out⟩, ⟨by refine ru ?_; exact HO525.out⟩, ⟨by refine bu ?_; exact BK506.out⟩, ⟨by refine bu ?_; exact BK527.out⟩, ⟨tb⟩⟩
              ·replace c43 := Bool.eq_false_iff.mpr c43
               subst c43
               have H1 : (laws_FnBanks.j2 k2 t507 y511 t514 x10_2 (y511.length : Int) x70_2 true t500 t501 t502 t503 t520 t521 t522 t523) = some r := by rw [if_neg (show ¬ (false = true) by decide)] at H; exact H
               clear H
               have H := H1
               clear H1
               as_aux_lemma =>
                have H' := Aside0.mk H
                clear H
                go_wp2
                go_meet
                case rel => exact ⟨_, (true), rs_, H', ⟨by have := HJ13.out; have := HK2.out; exact om_⟩, ⟨by refine ru ?_; exact Kd.R_mono (Kd.R_far (p := ⟨gb527, 3, none⟩) (Kd.R_far (p := ⟨gb527, 2, none⟩) (Kd.R_far (p := ⟨gb527, 1, none⟩) (Kd.R_far (p := ⟨gb527, 0, none⟩) (Kd.R_types HO_7.out BK527.out (by decide)) (fun _ hk => hk.2) (.complex .f32 t520.re t520.im)) (fun _ hk => hk.2) (.complex .f32 t521.re t521.im)) (fun _ hk => hk.2) (.complex .f32 t522.re t522.im)) (fun _ hk => hk.2) (.slice Ao41 t523.length co41)) (fun _ hk => hk.1)⟩, ⟨by refine ru ?_; exact Kd.R_mono (Kd.R_far (p := ⟨gb527, 3, none⟩) (Kd.R_far (p := ⟨gb527, 2, none⟩) (Kd.R_far (p := ⟨gb527, 1, none⟩) (Kd.R_far (p := ⟨gb527, 0, none⟩) (Kd.R_types HO_10.out BK527.out (by decide)) (fun _ hk => hk.2) (.complex .f32 t520.re t520.im)) (fun _ hk => hk.2) (.complex .f32 t521.re t521.im)) (fun _ hk => hk.2) (.complex .f32 t522.re t522.im)) (fun _ hk => hk.2) (.slice Ao41 t523.length co41)) (fun _ hk => hk.1)⟩, ⟨by refine ru ?_; exact Kd.R_mono (Kd.R_far (p := ⟨gb527, 3, none⟩) (Kd.R_far (p := ⟨gb527, 2, none⟩) (Kd.R_far (p := ⟨gb527, 1, none⟩) (Kd.R_far (p := ⟨gb527, 0, none⟩) (Kd.R_types HO_507003.out BK527.out (by decide)) (fun _ hk => hk.2) (.complex .f32 t520.re t520.im)) (fun _ hk => hk.2) (.complex .f32 t521.re t521.im)) (fun _ hk => hk.2) (.complex .f32 t522.re t522.im)) (fun _ hk => hk.2) (.slice Ao41 t523.length co41)) (fun _ hk => hk.1)⟩, ⟨by refine ru ?_; exact Kd.R_mono (Kd.R_far (p := ⟨gb527, 3, none⟩) (Kd.R_far (p := ⟨gb527, 2, none⟩) (Kd.R_far (p := ⟨gb527, 1, none⟩) (Kd.R_far (p := ⟨gb527, 0, none⟩) (Kd.R_types HO525.out BK527.out (by decide)) (fun _ hk => hk.2) (.complex .f32 t520.re t520.im)) (fun _ hk => hk.2) (.complex .f32 t521.re t521.im)) (fun _ hk => hk.2) (.complex .f32 t522.re t522.im)) (fun _ hk => hk.2) (.slice Ao41 t523.length co41)) (fun _ hk => hk.1)⟩, ⟨by refine bv ?_; exact BK506.out⟩, ⟨by refine bu ?_; refine blk_put (cs := #[.complex .f32 t520.re t520.im, .complex .f32 t521.re t521.im, .complex .f32 t522.re t522.im, .slice none 0 0]) ?_ 3 _ rfl; refine bu ?_; refine blk_put (cs := #[.complex .f32 t520.re t520.im, .complex .f32 t521.re t521.im, .complex .f32 0 0, .slice none 0 0]) ?_ 2 _ rfl; refine bu ?_; refine blk_put (cs := #[.complex .f32 t520.re t520.im, .complex .f32 0 0, .complex .f32 0 0, .slice none 0 0]) ?_ 1 _ rfl; refine bu ?_; refine blk_put (cs := #[.complex .f32 0 0, .complex .f32 0 0, .complex .f32 0 0, .slice none 0 0]) ?_ 0 _ rfl; refine bu ?_; exact BK527.out⟩, ⟨tb⟩⟩
             case rest =>
              clear HC33
              try clear c1
              try clear c2
              try clear p2
              try clear c3
              try clear c4
              try clear c5
              try clear p5
              try clear q5
              try clear hx5
              try clear p6
              try clear c8
              try clear c8b0
              try clear c8b1
              try clear c9
              try clear c10
              try clear c10b0
              try clear c10b1
              try clear c12
              try clear c12b0
              try clear c12b1
              try clear c24
              try clear c25
              try clear c25b0
              try clear c26
              try clear c29
              try clear c29b0
              try clear c30
              try clear c30b0
              try clear c31
              try clear c31b0
              try clear c33
              try clear c43
              try clear c45
              try clear c46
              try clear c46b0
              try clear c46b1
              try clear c47
              try clear c47b0
              try clear c47b1
              try clear c48
              try clear c48b0
              try clear c48b1
              try clear c49
              try clear p51
              try clear q51
              try clear hx51
              try clear p52
              try clear q52
              try clear hx52
              try clear c54
              try clear c59
              try clear hcz17_0
              try clear hcz17_1
              try clear hcz17_2
              try clear hcz17_3
              try clear hcz21_0
              try clear hcz21_1
              try clear hcz21_2
              try clear hcz21_3
              try clear hcz50_0
              try clear hcz50_1
              try clear hcz50_2
              try clear hcz50_3
              try clear hcz52_0
              try clear hcz52_1
              try clear hcz52_2
              try clear hcz52_3
              try clear hcz53_0
              try clear hcz53_1
              try clear hcz53_2
              try clear hcz53_3
              try clear hcz55_0
              try clear hcz55_1
              try clear hcz55_2
              try clear hcz55_3
              try clear hcz57_0
              try clear hcz57_1
              try clear hcz57_2
              try clear hcz57_3
              try clear hcz58_0
              try clear hcz58_1
              try clear hcz58_2
              try clear hcz58_3
              try clear hcz60_0
              try clear hcz60_1
              try clear hcz60_2
              try clear hcz60_3
              try clear hfz17_0
              try clear hfz17_1
              try clear hfz17_2
              try clear hfz17_3
              try clear hfz21_0
              try clear hfz21_1
              try clear hfz21_2
              try clear hfz21_3
              try clear hfz50_0
              try clear hfz50_1
              try clear hfz50_2
              try clear hfz50_3
              try clear hfz52_0
              try clear hfz52_1
              try clear hfz52_2
              try clear hfz52_3
              try clear hfz53_0
              try clear hfz53_1
              try clear hfz53_2
              try clear hfz53_3
              try clear hfz55_0
              try clear hfz55_1
              try clear hfz55_2
              try clear hfz55_3
              try clear hfz57_0
              try clear hfz57_1
              try clear hfz57_2
              try clear hfz57_3
              try clear hfz58_0
              try clear hfz58_1
              try clear hfz58_2
              try clear hfz58_3
              try clear hfz60_0
              try clear hfz60_1
              try clear hfz60_2
              try clear hfz60_3
              try clear hx519_0
              try clear hx529_0
              try clear hx529_1
              try clear hx529_2
              try clear hx529_3
              try clear hx529_4
              try clear hx529_5
              try clear hx529_6
              try clear hx529_7
              try clear p2
              try clear p519
              try clear p529
              try clear p6
              try clear q519
              try clear q529
              obtain ⟨kq, x111_32, rfl, HA, HJ32, HO_7, HO_10, HO_507003, HO_528003, BK506, BK527, HB⟩ := hcut
              cases kq with
              | zero => exact absurd HA.out (by simp [laws_FnBanks.j2])
              | succ kj32 =>
               have H := HA.out
               clear HA
               simp only [laws_FnBanks.j2] at H
               by_cases c62 : x111_32 = true
               ·subst c62
                rw [if_pos rfl] at H; try dsimp only at H
                exact absurd (H.trans (congrArg some hlaw)) (by decide)
               ·replace c62 := Bool.eq_false_iff.mpr c62
                subst c62
                have H1 : ((impl_FlatVoltages.f kj32 t520 t521 t522 t523).bind fun bt530 => ((impl_RunSweeps.f kj32 t520 t521 t522 t523 bt530.1 3).bind fun bt534 => ((impl_LowestBus.f kj32 t520 t521 t522 t523 bt534.1 bt534.2.1 bt534.2.2.1 bt534.2.2.2.1).bind fun bt544 => (if bt530.2 = true then (if bt534.2.2.2.2 = true then (if bt544.2.2 = true then (if x10_2.length < 35184372088832 then (laws_FnBanks.l0 kj32 t507 y511 t514 (x10_2 ++ [bt544.2.1]) (y511.length : Int) (wrap64 (x70_2 + 1)) t500 t501 t502 t503) else (none)) else (some false)) else (some false)) else (some false))))) = some r := by rw [if_neg (show ¬ (false = true) by decide)] at H; exact H
                clear H
                have H := H1
                clear H1
                replace H := Option.bind_eq_some_iff.mp H
                obtain ⟨⟨t530, t533⟩, A630, H⟩ := H
                try dsimp only at H
                have A63 := Aside0.mk A630
                clear A630
                replace H := Option.bind_eq_some_iff.mp H
                obtain ⟨⟨t534, t537, t540, t541, t542⟩, A640, H⟩ := H
                try dsimp only at H
                have A64 := Aside0.mk A640
                clear A640
                replace H := Option.bind_eq_some_iff.mp H
                obtain ⟨⟨t544, t545, t546⟩, A650, H⟩ := H
                try dsimp only at H
                have A65 := Aside0.mk A650
                clear A650
                by_cases c66 : t533 = true
                ·subst c66
                 rw [if_pos rfl] at H; try dsimp only at H
                 by_cases c67 : t542 = true
                 ·subst c67
                  rw [if_pos rfl] at H; try dsimp only at H
                  by_cases c68 : t546 = true
                  ·subst c68
                   rw [if_pos rfl] at H; try dsimp only at H
                   by_cases c69 : x10_2.length < 35184372088832
                   ·rw [if_pos c69] at H
                    have LMc69 := Aside0.mk c69
                    clear c69
                    obtain ⟨y547, hy547⟩ : ∃ y_ : List Nat, y_ = (x10_2 ++ [t545]) := ⟨_, rfl⟩
                    replace H : (laws_FnBanks.l0 kj32 t507 y511 t514 y547 (y511.length : Int) (wrap64 (x70_2 + 1)) t500 t501 t502 t503) = some r := by first | (rw [hy547]; with_reducible exact H) | (have H2_ := (Option.bind_some _ _).symm.trans H; rw [hy547]; with_reducible exact H2_) | (have H2_ := (Option.bind_some _ _).symm.trans H; with_reducible exact H2_) | with_reducible exact H | (rw [hy547]; exact H) | exact H
                    have Ny547 := Aside0.mk hy547
                    clear hy547
                    as_aux_lemma =>
                     have H' := Aside0.mk H
                     clear H
                     have hnb70 := NB527_506.out
                     have hnc70 := NB506_527.out
                     have hcz71_0 : wc.cell? ⟨gb527, 0, none⟩ = some (.complex .f32 t520.re t520.im) := (blk_cell BK527.out 0).trans rfl
                     have hcz71_1 : wc.cell? ⟨gb527, 1, none⟩ = some (.complex .f32 t521.re t521.im) := (blk_cell BK527.out 1).trans rfl
                     have hcz71_2 : wc.cell? ⟨gb527, 2, none⟩ = some (.complex .f32 t522.re t522.im) := (blk_cell BK527.out 2).trans rfl
                     have hcz71_3 : wc.cell? ⟨gb527, 3, none⟩ = some (.slice Ao41 t523.length co41) := (blk_cell BK527.out 3).trans rfl
                     have hfz71_0 := blk_frozen BK527.out 0
                     have hfz71_1 := blk_frozen BK527.out 1
                     have hfz71_2 := blk_frozen BK527.out 2
                     have hfz71_3 := blk_frozen BK527.out 3
                     go_wp2_with (first | ((with_reducible refine gate_callee (f := 35) rfl ?_); refine gx_ (some 114) Try.func35 #[.agg #[.complex .f32 t520.re t520.im, .complex .f32 t521.re t521.im, .complex .f32 t522.re t522.im, .slice Ao41 t523.length co41]] ?_; (with_reducible refine (impl_FlatVoltages.calls kj32 t520 t521 t522 _ _ t523 t530 true _ ?side1 ?side2 A63.out).mono ?_); (case side1 => exact cu ((Kd.R_reads' HO_528003.out).2.2)); (case side2 => exact (Kd.R_reads' HO_528003.out).2.1); rintro e w72 ⟨v531, rfl, ho0, hb⟩; refine ⟨_, rfl, ?_⟩; have n0_ := Aside0.mk (Kd.R_below (ru HO_7.out) hb); have n1_ := Aside0.mk (Kd.R_below (ru HO_10.out) hb); have n2_ := Aside0.mk (Kd.R_below (ru HO_507003.out) hb); have n3_ := Aside0.mk (Kd.R_below (ru HO_528003.out) hb); have n4_ := Aside0.mk (Kd.R_lower ho0 (below_size tb)); have n5_ := Aside0.mk (blk_below (g := gb506) (o := .cells #[.complex .f32 t500.re t500.im, .complex .f32 t501.re t501.im, .complex .f32 t502.re t502.im, .slice Ao18 t503.length co18] 42 (0, 0)) (bu BK506.out) hb); have n6_ := Aside0.mk (blk_below (g := gb527) (o := .cells #[.complex .f32 t520.re t520.im, .complex .f32 t521.re t521.im, .complex .f32 t522.re t522.im, .slice Ao41 t523.length co41] 42 (0, 0)) (bu BK527.out) hb); have n7_ := Aside0.mk (below_step tb hb); clear HO_7; clear HO_10; clear HO_507003; clear HO_528003; clear BK506; clear BK527; clear HB; have HO_7 := n0_; have HO_10 := n1_; have HO_507003 := n2_; have HO_528003 := n3_; have HO532 := n4_; have BK506 := n5_; have BK527 := n6_; have HB := n7_; clear n0_ n1_ n2_ n3_ n4_ n5_ n6_ n7_; (try clear hb); (try clear hb2); (try clear hk); (try clear hi); (try clear ho0); have hcz73_0 : w72.cell? ⟨gb527, 0, none⟩ = some (.complex .f32 t520.re t520.im) := (blk_cell BK527.out 0).trans rfl; have hcz73_1 : w72.cell? ⟨gb527, 1, none⟩ = some (.complex .f32 t521.re t521.im) := (blk_cell BK527.out 1).trans rfl; have hcz73_2 : w72.cell? ⟨gb527, 2, none⟩ = some (.complex .f32 t522.re t522.im) := (blk_cell BK527.out 2).trans rfl; have hcz73_3 : w72.cell? ⟨gb527, 3, none⟩ = some (.slice Ao41 t523.length co41) := (blk_cell BK527.out 3).trans rfl; have hfz73_0 := blk_frozen BK527.out 0; have hfz73_1 := blk_frozen BK527.out 1; have hfz73_2 := blk_frozen BK527.out 2; have hfz73_3 := blk_frozen BK527.out 3; obtain ⟨Ao74, co74, eo74⟩ := Kd.R_slice HO532.out; subst eo74) | ((with_reducible refine gate_callee (f := 36) rfl ?_); refine gx_ (some 120) Try.func36 #[.agg #[.complex .f32 t520.re t520.im, .complex .f32 t521.re t521.im, .complex .f32 t522.re t522.im, .slice Ao41 t523.length co41], .slice Ao74 t530.length co74, .int .i64 3] ?_; (with_reducible refine (impl_RunSweeps.calls kj32 t520 t521 t522 _ _ t523 _ _ t530 3 t534 t537 t540 t541 true _ ?side1 ?side2 ?side3 ?side4 A64.out).mono ?_); (case side1 => exact cu ((Kd.R_reads' HO_528003.out).2.2)); (case side2 => exact (Kd.R_reads' HO_528003.out).2.1); (case side3 => exact cu ((Kd.R_reads' HO532.out).2.2)); (case side4 => exact (Kd.R_reads' HO532.out).2.1); rintro e w75 ⟨v535, v538, rfl, ho0, ho1, hb⟩; refine ⟨_, rfl, ?_⟩; have n0_ := Aside0.mk (Kd.R_below (ru HO_7.out) hb); have n1_ := Aside0.mk (Kd.R_below (ru HO_10.out) hb); have n2_ := Aside0.mk (Kd.R_below (ru HO_507003.out) hb); have n3_ := Aside0.mk (Kd.R_below (ru HO_528003.out) hb); have n4_ := Aside0.mk (Kd.R_mono (Kd.R_told (Kd.R_told (Kd.R_old (ru HO532.out) hb) (Kd.R_base ho0)) (Kd.R_base ho1)) (fun _ h_ => h_.1)); have n5_ := Aside0.mk (Kd.R_lower (Kd.R_new' ho0 (Kd.R_lt (ru HO532.out))) (below_size tb)); have n6_ := Aside0.mk (Kd.R_lower (Kd.R_new' ho1 (Kd.R_lt (ru HO532.out))) (below_size tb)); have n7_ := Aside0.mk (blk_below (g := gb506) (o := .cells #[.complex .f32 t500.re t500.im, .complex .f32 t501.re t501.im, .complex .f32 t502.re t502.im, .slice Ao18 t503.length co18] 42 (0, 0)) (bu BK506.out) hb); have n8_ := Aside0.mk (blk_below (g := gb527) (o := .cells #[.complex .f32 t520.re t520.im, .complex .f32 t521.re t521.im, .complex .f32 t522.re t522.im, .slice Ao41 t523.length co41] 42 (0, 0)) (bu BK527.out) hb); have n9_ := Aside0.mk (below_step tb hb); clear HO_7; clear HO_10; clear HO_507003; clear HO_528003; clear HO532; clear BK506; clear BK527; clear HB; have HO_7 := n0_; have HO_10 := n1_; have HO_507003 := n2_; have HO_528003 := n3_; have HO532 := n4_; have HO536 := n5_; have HO539 := n6_; have BK506 := n7_; have BK527 := n8_; have HB := n9_; clear n0_ n1_ n2_ n3_ n4_ n5_ n6_ n7_ n8_ n9_; (try clear hb); (try clear hb2); (try clear hk); (try clear hi); (try clear ho0); (try clear ho1)) | ((with_reducible refine gate_dst (N := 16) rfl ?_); (try (refine gate_guard (by rfl) ?_; dsimp only)); refine box_event ?hg (N := 16) ?hd (cs := #[.slice none 0 0, .slice none 0 0, .int .i64 0, .bool false]) (t := 51) ?hr ?_; (case hd => rfl); (case hg => rfl); (case hr => first | (go_simp; done) | (go_simp; rfl)); intro gb543 hg w76 hbox hb; have n0_ := Aside0.mk (Kd.R_below (ru HO_7.out) hb); have n1_ := Aside0.mk (Kd.R_below (ru HO_10.out) hb); have n2_ := Aside0.mk (Kd.R_below (ru HO_507003.out) hb); have n3_ := Aside0.mk (Kd.R_below (ru HO_528003.out) hb); have n4_ := Aside0.mk (Kd.R_below (ru HO532.out) hb); have n5_ := Aside0.mk (Kd.R_below (ru HO536.out) hb); have n6_ := Aside0.mk (Kd.R_below (ru HO539.out) hb); have n7_ := Aside0.mk (blk_below (g := gb506) (o := .cells #[.complex .f32 t500.re t500.im, .complex .f32 t501.re t501.im, .complex .f32 t502.re t502.im, .slice Ao18 t503.length co18] 42 (0, 0)) (bu BK506.out) hb); have n8_ := Aside0.mk (blk_below (g := gb527) (o := .cells #[.complex .f32 t520.re t520.im, .complex .f32 t521.re t521.im, .complex .f32 t522.re t522.im, .slice Ao41 t523.length co41] 42 (0, 0)) (bu BK527.out) hb); have n9_ := Aside0.mk (below_step tb hb); have n10_ := Aside0.mk (hbox); have n11_ := Aside0.mk ((by rw [hg]; exact (below_size tb) : w.heap.size ≤ gb543)); have n12_ := Aside0.mk ((by rw [hg]; exact (below_size tb) : w.heap.size ≤ gb543)); have n13_ := Aside0.mk ((by rw [hg]; exact Nat.ne_of_lt (blk_lt (g := gb506) (o := .cells #[.complex .f32 t500.re t500.im, .complex .f32 t501.re t501.im, .complex .f32 t502.re t502.im, .slice Ao18 t503.length co18] 42 (0, 0)) (bu BK506.out)) : gb506 ≠ gb543)); have n14_ := Aside0.mk ((by rw [hg]; exact Nat.ne_of_gt (blk_lt (g := gb506) (o := .cells #[.complex .f32 t500.re t500.im, .complex .f32 t501.re t501.im, .complex .f32 t502.re t502.im, .slice Ao18 t503.length co18] 42 (0, 0)) (bu BK506.out)) : gb543 ≠ gb506)); have n15_ := Aside0.mk ((by rw [hg]; exact Nat.ne_of_lt (blk_lt (g := gb527) (o := .cells #[.complex .f32 t520.re t520.im, .complex .f32 t521.re t521.im, .complex .f32 t522.re t522.im, .slice Ao41 t523.length co41] 42 (0, 0)) (bu BK527.out)) : gb527 ≠ gb543)); have n16_ := Aside0.mk ((by rw [hg]; exact Nat.ne_of_gt (blk_lt (g := gb527) (o := .cells #[.complex .f32 t520.re t520.im, .complex .f32 t521.re t521.im, .complex .f32 t522.re t522.im, .slice Ao41 t523.length co41] 42 (0, 0)) (bu BK527.out)) : gb543 ≠ gb527)); clear HO_7; clear HO_10; clear HO_507003; clear HO_528003; clear HO532; clear HO536; clear HO539; clear BK506; clear BK527; clear HB; have HO_7 := n0_; have HO_10 := n1_; have HO_507003 := n2_; have HO_528003 := n3_; have HO532 := n4_; have HO536 := n5_; have HO539 := n6_; have BK506 := n7_; have BK527 := n8_; have HB := n9_; have BK543 := n10_; have GW543 := n11_; have GE543 := n12_; have NB506_543 := n13_; have NB543_506 := n14_; have NB527_543 := n15_; have NB543_527 := n16_; clear n0_ n1_ n2_ n3_ n4_ n5_ n6_ n7_ n8_ n9_ n10_ n11_ n12_ n13_ n14_ n15_ n16_; clear hb hbox hg; obtain ⟨Ao77, co77, eo77⟩ := Kd.R_slice HO536.out; subst eo77; have hnb78 := NB543_506.out; have hnc78 := NB506_543.out; have hnb79 := NB543_527.out; have hnc79 := NB527_543.out; have hcz80_0 : w76.cell? ⟨gb543, 0, none⟩ = some (.slice none 0 0) := (blk_cell BK543.out 0).trans rfl; have hcz80_1 : w76.cell? ⟨gb543, 1, none⟩ = some (.slice none 0 0) := (blk_cell BK543.out 1).trans rfl; have hcz80_2 : w76.cell? ⟨gb543, 2, none⟩ = some (.int .i64 0) := (blk_cell BK543.out 2).trans rfl; have hcz80_3 : w76.cell? ⟨gb543, 3, none⟩ = some (.bool false) := (blk_cell BK543.out 3).trans rfl; have hfz80_0 := blk_frozen BK543.out 0; have hfz80_1 := blk_frozen BK543.out 1; have hfz80_2 := blk_frozen BK543.out 2; have hfz80_3 := blk_frozen BK543.out 3; obtain ⟨Ao81, co81, eo81⟩ := Kd.R_slice HO539.out; subst eo81; have hcz82_0 : w76.cell? ⟨gb527, 0, none⟩ = some (.complex .f32 t520.re t520.im) := (blk_cell BK527.out 0).trans rfl; have hcz82_1 : w76.cell? ⟨gb527, 1, none⟩ = some (.complex .f32 t521.re t521.im) := (blk_cell BK527.out 1).trans rfl; have hcz82_2 : w76.cell? ⟨gb527, 2, none⟩ = some (.complex .f32 t522.re t522.im) := (blk_cell BK527.out 2).trans rfl; have hcz82_3 : w76.cell? ⟨gb527, 3, none⟩ = some (.slice Ao41 t523.length co41) := (blk_cell BK527.out 3).trans rfl; have hfz82_0 := blk_frozen BK527.out 0; have hfz82_1 := blk_frozen BK527.out 1; have hfz82_2 := blk_frozen BK527.out 2; have hfz82_3 := blk_frozen BK527.out 3) | ((with_reducible refine gate_callee (f := 37) rfl ?_); refine gx_ (some 126) Try.func37 #[.agg #[.complex .f32 t520.re t520.im, .complex .f32 t521.re t521.im, .complex .f32 t522.re t522.im, .slice Ao41 t523.length co41], .agg #[.slice Ao77 t534.length co77, .slice Ao81 t537.length co81, .int .i64 t540, .bool t541]] ?_; (with_reducible refine (impl_LowestBus.calls kj32 t520 t521 t522 _ _ t523 _ _ t534 _ _ t537 t540 t541 t544 t545 true _ ?side1 ?side2 ?side3 ?side4 ?side5 ?side6 A65.out).mono ?_); (case side1 => refine (Kd.R_reads' (e := 66) (base := w.heap.size) (ok := fun k_ => some k_ ≠ (.slice Ao18 t503.length co18 : Value).ownBlock) (n := t523.length) (c := co41) ?_).2.2; exact (by refine ru ?_; exact (Kd.R_mono (Kd.R_far (p := ⟨gb543, 3, none⟩) (Kd.R_far (p := ⟨gb543, 2, none⟩) (Kd.R_far (p := ⟨gb543, 1, none⟩) (Kd.R_far (p := ⟨gb543, 0, none⟩) (Kd.R_types HO_528003.out BK543.out (by decide)) (fun _ hk => hk.2) (.slice Ao77 t534.length co77)) (fun _ hk => hk.2) (.slice Ao81 t537.length co81)) (fun _ hk => hk.2) (.int .i64 t540)) (fun _ hk => hk.2) (.bool t541)) (fun _ h_ => h_.1)))); (case side2 => exact (Kd.R_reads' HO_528003.out).2.1); (case side3 => refine (Kd.R_reads' (e := 39) (base := w.heap.size) (ok := fun k_ => (some k_ ≠ (.slice Ao81 t537.length co81 : Value).ownBlock ∧ some k_ ≠ (.slice Ao74 t530.length co74 : Value).ownBlock)) (n := t534.length) (c := co77) ?_).2.2; exact (by refine ru ?_; exact (Kd.R_mono (Kd.R_far (p := ⟨gb543, 3, none⟩) (Kd.R_far (p := ⟨gb543, 2, none⟩) (Kd.R_far (p := ⟨gb543, 1, none⟩) (Kd.R_far (p := ⟨gb543, 0, none⟩) (Kd.R_types HO536.out BK543.out (by decide)) (fun _ hk => hk.2) (.slice Ao77 t534.length co77)) (fun _ hk => hk.2) (.slice Ao81 t537.length co81)) (fun _ hk => hk.2) (.int .i64 t540)) (fun _ hk => hk.2) (.bool t541)) (fun _ h_ => h_.1)))); (case side4 => exact (Kd.R_reads' HO536.out).2.1); (case side5 => refine (Kd.R_reads' (e := 39) (base := w.heap.size) (ok := fun k_ => (some k_ ≠ (.slice Ao77 t534.length co77 : Value).ownBlock ∧ some k_ ≠ (.slice Ao74 t530.length co74 : Value).ownBlock)) (n := t537.length) (c := co81) ?_).2.2; exact (by refine ru ?_; exact (Kd.R_mono (Kd.R_far (p := ⟨gb543, 3, none⟩) (Kd.R_far (p := ⟨gb543, 2, none⟩) (Kd.R_far (p := ⟨gb543, 1, none⟩) (Kd.R_far (p := ⟨gb543, 0, none⟩) (Kd.R_types HO539.out BK543.out (by decide)) (fun _ hk => hk.2) (.slice Ao77 t534.length co77)) (fun _ hk => hk.2) (.slice Ao81 t537.length co81)) (fun _ hk => hk.2) (.int .i64 t540)) (fun _ hk => hk.2) (.bool t541)) (fun _ h_ => h_.1)))); (case side6 => exact (Kd.R_reads' HO539.out).2.1); rintro e w83 ⟨rfl, hb⟩; refine ⟨_, rfl, ?_⟩; have n0_ := Aside0.mk (Kd.R_below (by refine ru ?_; exact (Kd.R_mono (Kd.R_far (p := ⟨gb543, 3, none⟩) (Kd.R_far (p := ⟨gb543, 2, none⟩) (Kd.R_far (p := ⟨gb543, 1, none⟩) (Kd.R_far (p := ⟨gb543, 0, none⟩) (Kd.R_types HO_7.out BK543.out (by decide)) (fun _ hk => hk.2) (.slice Ao77 t534.length co77)) (fun _ hk => hk.2) (.slice Ao81 t537.length co81)) (fun _ hk => hk.2) (.int .i64 t540)) (fun _ hk => hk.2) (.bool t541)) (fun _ h_ => h_.1))) hb); have n1_ := Aside0.mk (Kd.R_below (by refine ru ?_; exact (Kd.R_mono (Kd.R_far (p := ⟨gb543, 3, none⟩) (Kd.R_far (p := ⟨gb543, 2, none⟩) (Kd.R_far (p := ⟨gb543, 1, none⟩) (Kd.R_far (p := ⟨gb543, 0, none⟩) (Kd.R_types HO_10.out BK543.out (by decide)) (fun _ hk => hk.2) (.slice Ao77 t534.length co77)) (fun _ hk => hk.2) (.slice Ao81 t537.length co81)) (fun _ hk => hk.2) (.int .i64 t540)) (fun _ hk => hk.2) (.bool t541)) (fun _ h_ => h_.1))) hb); have n2_ := Aside0.mk (Kd.R_below (by refine ru ?_; exact (Kd.R_mono (Kd.R_far (p := ⟨gb543, 3, none⟩) (Kd.R_far (p := ⟨gb543, 2, none⟩) (Kd.R_far (p := ⟨gb543, 1, none⟩) (Kd.R_far (p := ⟨gb543, 0, none⟩) (Kd.R_types HO_507003.out BK543.out (by decide)) (fun _ hk => hk.2) (.slice Ao77 t534.length co77)) (fun _ hk => hk.2) (.slice Ao81 t537.length co81)) (fun _ hk => hk.2) (.int .i64 t540)) (fun _ hk => hk.2) (.bool t541)) (fun _ h_ => h_.1))) hb); have n3_ := Aside0.mk (Kd.R_below (by refine ru ?_; exact (Kd.R_mono (Kd.R_far (p := ⟨gb543, 3, none⟩) (Kd.R_far (p := ⟨gb543, 2, none⟩) (Kd.R_far (p := ⟨gb543, 1, none⟩) (Kd.R_far (p := ⟨gb543, 0, none⟩) (Kd.R_types HO_528003.out BK543.out (by decide)) (fun _ hk => hk.2) (.slice Ao77 t534.length co77)) (fun _ hk => hk.2) (.slice Ao81 t537.length co81)) (fun _ hk => hk.2) (.int .i64 t540)) (fun _ hk => hk.2) (.bool t541)) (fun _ h_ => h_.1))) hb); have n4_ := Aside0.mk (Kd.R_below (by refine ru ?_; exact (Kd.R_mono (Kd.R_far (p := ⟨gb543, 3, none⟩) (Kd.R_far (p := ⟨gb543, 2, none⟩) (Kd.R_far (p := ⟨gb543, 1, none⟩) (Kd.R_far (p := ⟨gb543, 0, none⟩) (Kd.R_types HO532.out BK543.out (by decide)) (fun _ hk => hk.2) (.slice Ao77 t534.length co77)) (fun _ hk => hk.2) (.slice Ao81 t537.length co81)) (fun _ hk => hk.2) (.int .i64 t540)) (fun _ hk => hk.2) (.bool t541)) (fun _ h_ => h_.1))) hb); have n5_ := Aside0.mk (Kd.R_below (by refine ru ?_; exact (Kd.R_mono (Kd.R_far (p := ⟨gb543, 3, none⟩) (Kd.R_far (p := ⟨gb543, 2, none⟩) (Kd.R_far (p := ⟨gb543, 1, none⟩) (Kd.R_far (p := ⟨gb543, 0, none⟩) (Kd.R_types HO536.out BK543.out (by decide)) (fun _ hk => hk.2) (.slice Ao77 t534.length co77)) (fun _ hk => hk.2) (.slice Ao81 t537.length co81)) (fun _ hk => hk.2) (.int .i64 t540)) (fun _ hk => hk.2) (.bool t541)) (fun _ h_ => h_.1))) hb); have n6_ := Aside0.mk (Kd.R_below (by refine ru ?_; exact (Kd.R_mono (Kd.R_far (p := ⟨gb543, 3, none⟩) (Kd.R_far (p := ⟨gb543, 2, none⟩) (Kd.R_far (p := ⟨gb543, 1, none⟩) (Kd.R_far (p := ⟨gb543, 0, none⟩) (Kd.R_types HO539.out BK543.out (by decide)) (fun _ hk => hk.2) (.slice Ao77 t534.length co77)) (fun _ hk => hk.2) (.slice Ao81 t537.length co81)) (fun _ hk => hk.2) (.int .i64 t540)) (fun _ hk => hk.2) (.bool t541)) (fun _ h_ => h_.1))) hb); have n7_ := Aside0.mk (blk_below (g := gb506) (o := .cells #[.complex .f32 t500.re t500.im, .complex .f32 t501.re t501.im, .complex .f32 t502.re t502.im, .slice Ao18 t503.length co18] 42 (0, 0)) (bv BK506.out) hb); have n8_ := Aside0.mk (blk_below (g := gb527) (o := .cells #[.complex .f32 t520.re t520.im, .complex .f32 t521.re t521.im, .complex .f32 t522.re t522.im, .slice Ao41 t523.length co41] 42 (0, 0)) (bv BK527.out) hb); have n9_ := Aside0.mk (blk_below (g := gb543) (o := .cells #[.slice Ao77 t534.length co77, .slice Ao81 t537.length co81, .int .i64 t540, .bool t541] 51 (0, 0)) (by refine bu ?_; refine blk_put (cs := #[.slice Ao77 t534.length co77, .slice Ao81 t537.length co81, .int .i64 t540, .bool false]) ?_ 3 _ rfl; refine bu ?_; refine blk_put (cs := #[.slice Ao77 t534.length co77, .slice Ao81 t537.length co81, .int .i64 0, .bool false]) ?_ 2 _ rfl; refine bu ?_; refine blk_put (cs := #[.slice Ao77 t534.length co77, .slice none 0 0, .int .i64 0, .bool false]) ?_ 1 _ rfl; refine bu ?_; refine blk_put (cs := #[.slice none 0 0, .slice none 0 0, .int .i64 0, .bool false]) ?_ 0 _ rfl; refine bu ?_; exact BK543.out) hb); have n10_ := Aside0.mk (below_step tb hb); clear HO_7; clear HO_10; clear HO_507003; clear HO_528003; clear HO532; clear HO536; clear HO539; clear BK506; clear BK527; clear BK543; clear HB; have HO_7 := n0_; have HO_10 := n1_; have HO_507003 := n2_; have HO_528003 := n3_; have HO532 := n4_; have HO536 := n5_; have HO539 := n6_; have BK506 := n7_; have BK527 := n8_; have BK543 := n9_; have HB := n10_; clear n0_ n1_ n2_ n3_ n4_ n5_ n6_ n7_ n8_ n9_ n10_; (try clear hb); (try clear hb2); (try clear hk); (try clear hi)) | ((with_reducible refine gate_builtin (b := .append) (xs := #[.tmp 140, .tmp 142]) rfl ?_); (try (refine gate_guard (by rfl) ?_; dsimp only)); at_builtin; refine Kd.R_append Kd.f32 (w0 := w) w.heap.size rfl (.tmp 140) (.tmp 142) 60 34 (.float .f32 0) 4 rfl Try.underlying60 info34 rfl (by decide) (by omega) u10 x10_2 t545 [.float .f32 t545] (fun k_ => some k_ ≠ (.slice (some ad519) y511.length co22 : Value).ownBlock) (fun _ => False) rfl rfl ?aP (fun _ hk => hk.elim) ?aF ?aO ?aB ?aS ?aL ?_; (case aP => exact rfl); (case aB => exact tb); (case aF => exact (fun k_ hk => Kd.fresh' (Kd.R_lt (ru HO_7.out)) k_ hk)); (case aO => exact (ru HO_10.out)); (case aS => exact (below_size tb)); (case aL => have := LMc69.out; omega); intro v548 w84 ho hb hg hat; rw [← Ny547.out] at ho; have n0_ := Aside0.mk (Kd.R_after (ok := (fun _ => True)) (by refine ru ?_; exact Kd.R_mono HO_7.out (fun _ hk => ⟨trivial, hk⟩)) hg hat); have n1_ := Aside0.mk (Kd.R_over' (ru HO_507003.out) (Kd.R_typed (ru HO_10.out)) (by decide) hg); have n2_ := Aside0.mk (Kd.R_over' (ru HO_528003.out) (Kd.R_typed (ru HO_10.out)) (by decide) hg); have n3_ := Aside0.mk (blk_grown (g := gb506) (o := .cells #[.complex .f32 t500.re t500.im, .complex .f32 t501.re t501.im, .complex .f32 t502.re t502.im, .slice Ao18 t503.length co18] 42 (0, 0)) (bu BK506.out) hg (Kd.R_ne HO_10.out BK506.out (by decide))); have n4_ := Aside0.mk (blk_grown (g := gb527) (o := .cells #[.complex .f32 t520.re t520.im, .complex .f32 t521.re t521.im, .complex .f32 t522.re t522.im, .slice Ao41 t523.length co41] 42 (0, 0)) (bu BK527.out) hg (Kd.R_ne HO_10.out BK527.out (by decide))); have n5_ := Aside0.mk (Kd.R_over' (ru HO532.out) (Kd.R_typed (ru HO_10.out)) (by decide) hg); have n6_ := Aside0.mk (Kd.R_over' (ru HO536.out) (Kd.R_typed (ru HO_10.out)) (by decide) hg); have n7_ := Aside0.mk (Kd.R_over' (ru HO539.out) (Kd.R_typed (ru HO_10.out)) (by decide) hg); have n8_ := Aside0.mk (blk_grown (g := gb543) (o := .cells #[.slice Ao77 t534.length co77, .slice Ao81 t537.length co81, .int .i64 t540, .bool t541] 51 (0, 0)) (bu BK543.out) hg (Kd.R_ne HO_10.out BK543.out (by decide))); have n9_ := Aside0.mk (hb); have n10_ := Aside0.mk (ho); clear HO_7; clear HO_507003; clear HO_528003; clear BK506; clear BK527; clear HO532; clear HO536; clear HO539; clear BK543; clear HB; clear HO_10; have HO_7 := n0_; have HO_507003 := n1_; have HO_528003 := n2_; have BK506 := n3_; have BK527 := n4_; have HO532 := n5_; have HO536 := n6_; have HO539 := n7_; have BK543 := n8_; have HB := n9_; have HO549 := n10_; clear n0_ n1_ n2_ n3_ n4_ n5_ n6_ n7_ n8_ n9_ n10_; clear ho hb hg hat))
                     go_roundg kj32
                     case measure => have := HJ13.out; have := HK2.out; have := HJ32.out; omega
                     case rel => exact ⟨(y547), (wrap64 (x70_2 + 1)), rs_, H', ⟨by have := HJ13.out; have := HK2.out; have := HJ32.out; omega⟩, ⟨by refine ru ?_; exact Kd.R_mono HO_7.out (fun _ hk => hk.2)⟩, ⟨by refine ru ?_; exact HO549.out⟩, ⟨by refine ru ?_; exact Kd.R_mono HO_507003.out (fun _ hk => trivial)⟩, ⟨by refine bu ?_; exact BK506.out⟩, ⟨tb⟩⟩
                   ·rw [if_neg c69] at H
                    exact absurd H (by simp)
                  ·replace c68 := Bool.eq_false_iff.mpr c68
                   subst c68
                   have H1 : (some false) = some r := by rw [if_neg (show ¬ (false = true) by decide)] at H; exact H
                   clear H
                   have H := H1
                   clear H1
                   exact absurd (H.trans (congrArg some hlaw)) (by decide)
                 ·replace c67 := Bool.eq_false_iff.mpr c67
                  subst c67
                  have H1 : (some false) = some r := by rw [if_neg (show ¬ (false = true) by decide)] at H; exact H
                  clear H
                  have H := H1
                  clear H1
                  exact absurd (H.trans (congrArg some hlaw)) (by decide)
                ·replace c66 := Bool.eq_false_iff.mpr c66
                 subst c66
                 have H1 : (some false) = some r := by rw [if_neg (show ¬ (false = true) by decide)] at H; exact H
                 clear H
                 have H := H1
                 clear H1
                 exact absurd (H.trans (congrArg some hlaw)) (by decide)
            ·rw [if_neg c31] at H
             exact absurd H (by simp)
           ·rw [if_neg c30] at H
            exact absurd H (by simp)
          ·rw [if_neg c29] at H
           have c29b0 : decide (x70_2 < (y511.length : Int)) = false := decide_eq_false c29
           clear c29
           have H' := Aside0.mk H
           clear H
           obtain ⟨Ao85, co85, eo85⟩ := Kd.R_slice HO_10.out
           subst eo85
           go_wp2
           go_loopg [147] k2 (fun kq v147 w' => ∃ (x147_3 : Int), v147 = .int .i64 x147_3 ∧ Aside0 (laws_FnBanks.l1 kq t514 x10_2 (x10_2.length : Int) x147_3 = some r) ∧ Aside0 (kq ≤ k2) ∧ Aside0 (Kd.R Kd.f32 34 w' w.heap.size (fun _ => True) (.slice Ao85 x10_2.length co85) x10_2) ∧ Aside0 (Kd.R k66 66 w' w.heap.size (fun _ => True) (.slice Ao18 t503.length co18) t503) ∧ Aside0 (w'.heap[gb506]? = some (.cells #[.complex .f32 t500.re t500.im, .complex .f32 t501.re t501.im, .complex .f32 t502.re t502.im, (.slice Ao18 t503.length co18)] 42 (0, 0))) ∧ Aside0 (Below w.heap.size w w'))
           case atStart => exact ⟨(0), rs_, H', ⟨Nat.le_refl _⟩, ⟨by refine ru ?_; exact Kd.R_mono HO_10.out (fun _ hk => trivial)⟩, ⟨by refine ru ?_; exact HO_507003.out⟩, ⟨by refine bu ?_; exact BK506.out⟩, ⟨tb⟩⟩
           case round =>
            clear H'
            try clear c1
            try clear c2
            try clear p2
            try clear c3
            try clear c4
            try clear c5
            try clear p5
            try clear q5
            try clear hx5
            try clear c6
            try clear p6
            try clear c7
            try clear c8
            try clear c8b0
            try clear c8b1
            try clear c9
            try clear c10
            try clear c10b0
            try clear c10b1
            try clear c12
            try clear c12b0
            try clear c12b1
            try clear c24
            try clear c25
            try clear c25b0
            try clear c26
            try clear c29
            try clear c29b0
            try clear c30
            try clear c30b0
            try clear c31
            try clear c31b0
            try clear c33
            try clear c35
            try clear c36
            try clear c37
            try clear c43
            try clear c45
            try clear c46
            try clear c46b0
            try clear c46b1
            try clear c47
            try clear c47b0
            try clear c47b1
            try clear c48
            try clear c48b0
            try clear c48b1
            try clear c49
            try clear p51
            try clear q51
            try clear hx51
            try clear p52
            try clear q52
            try clear hx52
            try clear c54
            try clear c59
            try clear c62
            try clear p64
            try clear c66
            try clear c67
            try clear c68
            try clear c69
            try clear c70
            try clear c78
            try clear c79
            try clear hcz17_0
            try clear hcz17_1
            try clear hcz17_2
            try clear hcz17_3
            try clear hcz21_0
            try clear hcz21_1
            try clear hcz21_2
            try clear hcz21_3
            try clear hcz50_0
            try clear hcz50_1
            try clear hcz50_2
            try clear hcz50_3
            try clear hcz52_0
            try clear hcz52_1
            try clear hcz52_2
            try clear hcz52_3
            try clear hcz53_0
            try clear hcz53_1
            try clear hcz53_2
            try clear hcz53_3
            try clear hcz55_0
            try clear hcz55_1
            try clear hcz55_2
            try clear hcz55_3
            try clear hcz57_0
            try clear hcz57_1
            try clear hcz57_2
            try clear hcz57_3
            try clear hcz58_0
            try clear hcz58_1
            try clear hcz58_2
            try clear hcz58_3
            try clear hcz60_0
            try clear hcz60_1
            try clear hcz60_2
            try clear hcz60_3
            try clear hcz71_0
            try clear hcz71_1
            try clear hcz71_2
            try clear hcz71_3
            try clear hcz73_0
            try clear hcz73_1
            try clear hcz73_2
            try clear hcz73_3
            try clear hcz80_0
            try clear hcz80_1
            try clear hcz80_2
            try clear hcz80_3
            try clear hcz82_0
            try clear hcz82_1
            try clear hcz82_2
            try clear hcz82_3
            try clear hfz17_0
            try clear hfz17_1
            try clear hfz17_2
            try clear hfz17_3
            try clear hfz21_0
            try clear hfz21_1
            try clear hfz21_2
            try clear hfz21_3
            try clear hfz50_0
            try clear hfz50_1
            try clear hfz50_2
            try clear hfz50_3
            try clear hfz52_0
            try clear hfz52_1
            try clear hfz52_2
            try clear hfz52_3
            try clear hfz53_0
            try clear hfz53_1
            try clear hfz53_2
            try clear hfz53_3
            try clear hfz55_0
            try clear hfz55_1
            try clear hfz55_2
            try clear hfz55_3
            try clear hfz57_0
            try clear hfz57_1
            try clear hfz57_2
            try clear hfz57_3
            try clear hfz58_0
            try clear hfz58_1
            try clear hfz58_2
            try clear hfz58_3
            try clear hfz60_0
            try clear hfz60_1
            try clear hfz60_2
            try clear hfz60_3
            try clear hfz71_0
            try clear hfz71_1
            try clear hfz71_2
            try clear hfz71_3
            try clear hfz73_0
            try clear hfz73_1
            try clear hfz73_2
            try clear hfz73_3
            try clear hfz80_0
            try clear hfz80_1
            try clear hfz80_2
            try clear hfz80_3
            try clear hfz82_0
            try clear hfz82_1
            try clear hfz82_2
            try clear hfz82_3
            try clear hx519_0
            try clear hx529_0
            try clear hx529_1
            try clear hx529_2
            try clear hx529_3
            try clear hx529_4
            try clear hx529_5
            try clear hx529_6
            try clear hx529_7
            try clear p2
            try clear p5
            try clear p51
            try clear p519
            try clear p52
            try clear p529
            try clear p6
            try clear q5
            try clear q51
            try clear q519
            try clear q52
            try clear q529
            obtain ⟨x147_3, rfl, HA, HK3, HO_10, HO_507003, BK506, HB⟩ := hrel
            cases gk with
            | zero => exact absurd HA.out (by simp [laws_FnBanks.l1])
            | succ k3 =>
             have H := HA.out
             clear HA
             simp only [laws_FnBanks.l1] at H
             by_cases c86 : x147_3 < (x10_2.length : Int)
             ·rw [if_pos c86] at H
              have c86b0 : decide (x147_3 < (x10_2.length : Int)) = true := decide_eq_true c86
              clear c86
              by_cases c87 : 0 ≤ x147_3
              ·rw [if_pos c87] at H
               have c87b0 : decide (0 ≤ x147_3) = true := decide_eq_true c87
               clear c87
               by_cases c88 : x147_3 < (x10_2.length : Int)
               ·rw [if_pos c88] at H
                have c88b0 : decide (x147_3 < (x10_2.length : Int)) = true := decide_eq_true c88
                clear c88
                by_cases c89 : 0 ≤ t514
                ·rw [if_pos c89] at H
                 have c89b0 : decide (0 ≤ t514) = true := decide_eq_true c89
                 clear c89
                 by_cases c90 : t514 < (x10_2.length : Int)
                 ·rw [if_pos c90] at H
                  have c90b0 : decide (t514 < (x10_2.length : Int)) = true := decide_eq_true c90
                  clear c90
                  by_cases c91 : (fgt .f32 (rdOf (0 : Nat) x10_2 x147_3) (rdOf (0 : Nat) x10_2 t514)) = true
                  ·rw [if_pos c91] at H
                   have c91b0 : (fgt .f32 (rdOf (0 : Nat) x10_2 x147_3) (rdOf (0 : Nat) x10_2 t514)) = true := c91
                   clear c91
                   exact absurd (H.trans (congrArg some hlaw)) (by decide)
                  ·rw [if_neg c91] at H
                   have c91b0 : (fgt .f32 (rdOf (0 : Nat) x10_2 x147_3) (rdOf (0 : Nat) x10_2 t514)) = false := by simpa using c91
                   clear c91
                   by_cases c92 : x147_3 < t514
                   ·rw [if_pos c92] at H
                    have c92b0 : decide (x147_3 < t514) = true := decide_eq_true c92
                    clear c92
                    by_cases c93 : (feq .f32 (rdOf (0 : Nat) x10_2 x147_3) (rdOf (0 : Nat) x10_2 t514)) = true
                    ·rw [if_pos c93] at H
                     have c93b0 : (feq .f32 (rdOf (0 : Nat) x10_2 x147_3) (rdOf (0 : Nat) x10_2 t514)) = true := c93
                     clear c93
                     exact absurd (H.trans (congrArg some hlaw)) (by decide)
                    ·rw [if_neg c93] at H
                     have c93b0 : (feq .f32 (rdOf (0 : Nat) x10_2 x147_3) (rdOf (0 : Nat) x10_2 t514)) = false := by simpa using c93
                     clear c93
                     as_aux_lemma =>
                      have H' := Aside0.mk H
                      clear H
                      try go_wp2
                      have n0_ := Aside0.mk (Kd.R_drew HO_10.out)
                      have n1_ := Aside0.mk (Kd.R_drew HO_507003.out)
                      have n2_ := Aside0.mk (blk_drew BK506.out)
                      have n3_ := Aside0.mk (below_drew1 HB.out)
                      clear HO_10
                      clear HO_507003
                      clear BK506
                      clear HB
                      have HO_10 := n0_
                      have HO_507003 := n1_
                      have BK506 := n2_
                      have HB := n3_
                      clear n0_ n1_ n2_ n3_
                      have p550 : 0 ≤ (x147_3 : Int) := of_decide_eq_true (by first | (with_reducible assumption) | assumption)
                      have q550 : x147_3 < (x10_2.length : Int) := of_decide_eq_true (by first | (with_reducible assumption) | assumption)
                      obtain ⟨ad550, e550, hx550_0⟩ := Kd.at_f32 (Kd.R_reads' HO_10.out).2.2 x147_3 p550 q550
                      cases e550
                      replace p550 := eq_true p550
                      replace q550 := eq_true q550
                      have p551 : 0 ≤ (t514 : Int) := of_decide_eq_true (by first | (with_reducible assumption) | assumption)
                      have q551 : t514 < (x10_2.length : Int) := of_decide_eq_true (by first | (with_reducible assumption) | assumption)
                      obtain ⟨ad551, e551, hx551_0⟩ := Kd.at_f32 (Kd.R_reads' HO_10.out).2.2 t514 p551 q551
                      obtain rfl : ad550 = ad551 := (by injection e551)
                      replace p551 := eq_true p551
                      replace q551 := eq_true q551
                      have p552 : 0 ≤ (x147_3 : Int) := of_decide_eq_true (by first | (with_reducible assumption) | assumption)
                      have q552 : x147_3 < (x10_2.length : Int) := of_decide_eq_true (by first | (with_reducible assumption) | assumption)
                      obtain ⟨ad552, e552, hx552_0⟩ := Kd.at_f32 (Kd.R_reads' HO_10.out).2.2 x147_3 p552 q552
                      obtain rfl : ad550 = ad552 := (by injection e552)
                      replace p552 := eq_true p552
                      replace q552 := eq_true q552
                      have p553 : 0 ≤ (t514 : Int) := of_decide_eq_true (by first | (with_reducible assumption) | assumption)
                      have q553 : t514 < (x10_2.length : Int) := of_decide_eq_true (by first | (with_reducible assumption) | assumption)
                      obtain ⟨ad553, e553, hx553_0⟩ := Kd.at_f32 (Kd.R_reads' HO_10.out).2.2 t514 p553 q553
                      obtain rfl : ad550 = ad553 := (by injection e553)
                      replace p553 := eq_true p553
                      replace q553 := eq_true q553
                      refine start_ (n := 25) (S := fun w' => w'.cell? (ad550.add (x147_3).toNat) = some (.float .f32 (rdOf (0 : Nat) x10_2 x147_3)) ∧ w'.cell? (ad550.add (t514).toNat) = some (.float .f32 (rdOf (0 : Nat) x10_2 t514)) ∧ w'.cell? (ad550.add (x147_3).toNat) = some (.float .f32 (rdOf (0 : Nat) x10_2 x147_3)) ∧ w'.cell? (ad550.add (t514).toNat) = some (.float .f32 (rdOf (0 : Nat) x10_2 t514))) (ds := []) #[false, false, false, false, false, false, false, false, false, false, false, false, false, false, false, false, false, false, false, false, false, false, false, false, false] (by kernel_rfl) rfl rfl ⟨hx550_0, hx551_0, hx552_0, hx553_0⟩ (fun hHeld => ?_); refine with_tabW laws_FnBanks.tab26 laws_FnBanks.bits26 (fun HT_ HW_ => ?_)
                      generalize wr.drew = w94 at HO_10 HO_507003 BK506 HB hx550_0 hx551_0 hx552_0 hx553_0 hHeld ⊢
                      refine pure_ (i := 0) (N := some 150) (v := ?_) (a' := ?_) #[true, false, false, false, false, false, false, false, false, false, false, false, false, false, false, false, false, false, false, false, false, false, false, false, false] rfl rfl (any_of HT_.out (by kernel_rfl)) (fun _ _ _ h => h) (Or.inl ⟨by rfl, ?_⟩) ?_ ?_
                      rotate_left
                      ·intro w'
                       go_simp
                       with_reducible rfl
                      rotate_left
                      ·refine ps_ ?_
                       rfl
                      refine pure_ (i := 1) (N := some 151) (v := ?_) (a' := ?_) #[true, true, false, false, false, false, false, false, false, false, false, false, false, false, false, false, false, false, false, false, false, false, false, false, false] rfl rfl (any_of HT_.out (by kernel_rfl)) (fun _ _ _ h => h) (Or.inl ⟨by rfl, ?_⟩) ?_ ?_
                      rotate_left
                      ·intro w'
                       go_simp
                       with_reducible rfl
                      rotate_left
                      ·refine ps_ ?_
                       rfl
                      refine pure_ (i := 2) (N := some 152) (v := ?_) (a' := ?_) #[true, true, true, false, false, false, false, false, false, false, false, false, false, false, false, false, false, false, false, false, false, false, false, false, false] rfl rfl (any_of HT_.out (by kernel_rfl)) (fun _ _ _ h => h) (Or.inl ⟨by rfl, ?_⟩) ?_ ?_
                      rotate_left
                      ·intro w'
                       go_simp
                       with_reducible rfl
                      rotate_left
                      ·refine ps_ ?_
                       rfl
                      refine pure_ (i := 4) (N := some 154) (v := ?_) (a' := ?_) #[true, true, true, false, true, false, false, false, false, false, false, false, false, false, false, false, false, false, false, false, false, false, false, false, false] rfl rfl (any_of HT_.out (by kernel_rfl)) (fun _ _ _ h => h) (Or.inl ⟨by rfl, ?_⟩) ?_ ?_
                      rotate_left
                      ·intro w'
                       go_simp
                       with_reducible rfl
                      rotate_left
                      ·refine ps_ ?_
                       rfl
                      refine pure_ (i := 5) (N := some 155) (v := ?_) (a' := ?_) #[true, true, true, false, true, true, false, false, false, false, false, false, false, false, false, false, false, false, false, false, false, false, false, false, false] rfl rfl (any_of HT_.out (by kernel_rfl)) (fun _ _ _ h => h) (Or.inl ⟨by rfl, ?_⟩) ?_ ?_
                      rotate_left
                      ·intro w'
                       go_simp
                       with_reducible rfl
                      rotate_left
                      ·refine ps_ ?_
                       rfl
                      refine pure_ (i := 6) (N := some 156) (v := ?_) (a' := ?_) #[true, true, true, false, true, true, true, false, false, false, false, false, false, false, false, false, false, false, false, false, false, false, false, false, false] rfl rfl (any_of HT_.out (by kernel_rfl)) (fun _ _ _ h => h) (Or.inl ⟨by rfl, ?_⟩) ?_ ?_
                      rotate_left
                      ·intro w'
                       go_simp
                       with_reducible rfl
                      rotate_left
                      ·refine ps_ ?_
                       rfl
                      refine take_ (i := 3) (N := some 153) (v := ?_) (a' := ?_) #[true, true, true, true, true, true, true, false, false, false, false, false, false, false, false, false, false, false, false, false, false, false, false, false, false] rfl rfl (take_ofW HT_.out HW_.out (by kernel_rfl)) (fun _ _ _ h => h) (Or.inl ⟨by rfl, ?_⟩) hHeld ?_ ?_
                      rotate_left
                      ·rintro w' ⟨s0, s1, s2, s3⟩
                       go_simp
                       with_reducible rfl
                      rotate_left
                      ·refine ps_ ?_
                       rfl
                      refine take_ (i := 7) (N := some 157) (v := ?_) (a' := ?_) #[true, true, true, true, true, true, true, true, false, false, false, false, false, false, false, false, false, false, false, false, false, false, false, false, false] rfl rfl (take_ofW HT_.out HW_.out (by kernel_rfl)) (fun _ _ _ h => h) (Or.inl ⟨by rfl, ?_⟩) hHeld ?_ ?_
                      rotate_left
                      ·rintro w' ⟨s0, s1, s2, s3⟩
                       go_simp
                       with_reducible rfl
                      rotate_left
                      ·refine ps_ ?_
                       rfl
                      refine pure_ (i := 8) (N := some 158) (v := ?_) (a' := ?_) #[true, true, true, true, true, true, true, true, true, false, false, false, false, false, false, false, false, false, false, false, false, false, false, false, false] rfl rfl (any_of HT_.out (by kernel_rfl)) (fun _ _ _ h => h) (Or.inl ⟨by rfl, ?_⟩) ?_ ?_
                      rotate_left
                      ·intro w'
                       go_simp
                       with_reducible rfl
                      rotate_left
                      ·refine ps_ ?_
                       rfl
                      refine pure_ (i := 9) (N := some 159) (v := ?_) (a' := ?_) #[true, true, true, true, true, true, true, true, true, true, false, false, false, false, false, false, false, false, false, false, false, false, false, false, false] rfl rfl (any_of HT_.out (by kernel_rfl)) (fun _ _ _ h => h) (Or.inl ⟨by rfl, ?_⟩) ?_ ?_
                      rotate_left
                      ·intro w'
                       go_simp
                       with_reducible rfl
                      rotate_left
                      ·refine ps_ ?_
                       rfl
                      refine pure_ (i := 10) (N := some 160) (v := ?_) (a' := ?_) #[true, true, true, true, true, true, true, true, true, true, true, false, false, false, false, false, false, false, false, false, false, false, false, false, false] rfl rfl (any_of HT_.out (by kernel_rfl)) (fun _ _ _ h => h) (Or.inl ⟨by rfl, ?_⟩) ?_ ?_
                      rotate_left
                      ·intro w'
                       go_simp
                       with_reducible rfl
                      rotate_left
                      ·refine ps_ ?_
                       rfl
                      refine pure_ (i := 11) (N := some 161) (v := ?_) (a' := ?_) #[true, true, true, true, true, true, true, true, true, true, true, true, false, false, false, false, false, false, false, false, false, false, false, false, false] rfl rfl (any_of HT_.out (by kernel_rfl)) (fun _ _ _ h => h) (Or.inl ⟨by rfl, ?_⟩) ?_ ?_
                      rotate_left
                      ·intro w'
                       go_simp
                       with_reducible rfl
                      rotate_left
                      ·refine ps_ ?_
                       rfl
                      refine pure_ (i := 12) (N := some 162) (v := ?_) (a' := ?_) #[true, true, true, true, true, true, true, true, true, true, true, true, true, false, false, false, false, false, false, false, false, false, false, false, false] rfl rfl (any_of HT_.out (by kernel_rfl)) (fun _ _ _ h => h) (Or.inl ⟨by rfl, ?_⟩) ?_ ?_
                      rotate_left
                      ·intro w'
                       go_simp
                       with_reducible rfl
                      rotate_left
                      ·refine ps_ ?_
                       rfl
                      refine pure_ (i := 13) (N := some 163) (v := ?_) (a' := ?_) #[true, true, true, true, true, true, true, true, true, true, true, true, true, true, false, false, false, false, false, false, false, false, false, false, false] rfl rfl (any_of HT_.out (by kernel_rfl)) (fun _ _ _ h => h) (Or.inl ⟨by rfl, ?_⟩) ?_ ?_
                      rotate_left
                      ·intro w'
                       go_simp
                       with_reducible rfl
                      rotate_left
                      ·refine ps_ ?_
                       rfl
                      refine pure_ (i := 14) (N := some 164) (v := ?_) (a' := ?_) #[true, true, true, true, true, true, true, true, true, true, true, true, true, true, true, false, false, false, false, false, false, false, false, false, false] rfl rfl (any_of HT_.out (by kernel_rfl)) (fun _ _ _ h => h) (Or.inl ⟨by rfl, ?_⟩) ?_ ?_
                      rotate_left
                      ·intro w'
                       go_simp
                       with_reducible rfl
                      rotate_left
                      ·refine ps_ ?_
                       rfl
                      refine pure_ (i := 15) (N := some 165) (v := ?_) (a' := ?_) #[true, true, true, true, true, true, true, true, true, true, true, true, true, true, true, true, false, false, false, false, false, false, false, false, false] rfl rfl (any_of HT_.out (by kernel_rfl)) (fun _ _ _ h => h) (Or.inl ⟨by rfl, ?_⟩) ?_ ?_
                      rotate_left
                      ·intro w'
                       go_simp
                       with_reducible rfl
                      rotate_left
                      ·refine ps_ ?_
                       rfl
                      refine pure_ (i := 16) (N := some 166) (v := ?_) (a' := ?_) #[true, true, true, true, true, true, true, true, true, true, true, true, true, true, true, true, true, false, false, false, false, false, false, false, false] rfl rfl (any_of HT_.out (by kernel_rfl)) (fun _ _ _ h => h) (Or.inl ⟨by rfl, ?_⟩) ?_ ?_
                      rotate_left
                      ·intro w'
                       go_simp
                       with_reducible rfl
                      rotate_left
                      ·refine ps_ ?_
                       rfl
                      refine pure_ (i := 18) (N := some 168) (v := ?_) (a' := ?_) #[true, true, true, true, true, true, true, true, true, true, true, true, true, true, true, true, true, false, true, false, false, false, false, false, false] rfl rfl (any_of HT_.out (by kernel_rfl)) (fun _ _ _ h => h) (Or.inl ⟨by rfl, ?_⟩) ?_ ?_
                      rotate_left
                      ·intro w'
                       go_simp
                       with_reducible rfl
                      rotate_left
                      ·refine ps_ ?_
                       rfl
                      refine pure_ (i := 19) (N := some 169) (v := ?_) (a' := ?_) #[true, true, true, true, true, true, true, true, true, true, true, true, true, true, true, true, true, false, true, true, false, false, false, false, false] rfl rfl (any_of HT_.out (by kernel_rfl)) (fun _ _ _ h => h) (Or.inl ⟨by rfl, ?_⟩) ?_ ?_
                      rotate_left
                      ·intro w'
                       go_simp
                       with_reducible rfl
                      rotate_left
                      ·refine ps_ ?_
                       rfl
                      refine pure_ (i := 20) (N := some 170) (v := ?_) (a' := ?_) #[true, true, true, true, true, true, true, true, true, true, true, true, true, true, true, true, true, false, true, true, true, false, false, false, false] rfl rfl (any_of HT_.out (by kernel_rfl)) (fun _ _ _ h => h) (Or.inl ⟨by rfl, ?_⟩) ?_ ?_
                      rotate_left
                      ·intro w'
                       go_simp
                       with_reducible rfl
                      rotate_left
                      ·refine ps_ ?_
                       rfl
                      refine take_ (i := 17) (N := some 167) (v := ?_) (a' := ?_) #[true, true, true, true, true, true, true, true, true, true, true, true, true, true, true, true, true, true, true, true, true, false, false, false, false] rfl rfl (take_ofW HT_.out HW_.out (by kernel_rfl)) (fun _ _ _ h => h) (Or.inl ⟨by rfl, ?_⟩) hHeld ?_ ?_
                      rotate_left
                      ·rintro w' ⟨s0, s1, s2, s3⟩
                       go_simp
                       with_reducible rfl
                      rotate_left
                      ·refine ps_ ?_
                       rfl
                      refine take_ (i := 21) (N := some 171) (v := ?_) (a' := ?_) #[true, true, true, true, true, true, true, true, true, true, true, true, true, true, true, true, true, true, true, true, true, true, false, false, false] rfl rfl (take_ofW HT_.out HW_.out (by kernel_rfl)) (fun _ _ _ h => h) (Or.inl ⟨by rfl, ?_⟩) hHeld ?_ ?_
                      rotate_left
                      ·rintro w' ⟨s0, s1, s2, s3⟩
                       go_simp
                       with_reducible rfl
                      rotate_left
                      ·refine ps_ ?_
                       rfl
                      refine pure_ (i := 22) (N := some 172) (v := ?_) (a' := ?_) #[true, true, true, true, true, true, true, true, true, true, true, true, true, true, true, true, true, true, true, true, true, true, true, false, false] rfl rfl (any_of HT_.out (by kernel_rfl)) (fun _ _ _ h => h) (Or.inl ⟨by rfl, ?_⟩) ?_ ?_
                      rotate_left
                      ·intro w'
                       go_simp
                       with_reducible rfl
                      rotate_left
                      ·refine ps_ ?_
                       rfl
                      refine pure_ (i := 23) (N := some 173) (v := ?_) (a' := ?_) #[true, true, true, true, true, true, true, true, true, true, true, true, true, true, true, true, true, true, true, true, true, true, true, true, false] rfl rfl (any_of HT_.out (by kernel_rfl)) (fun _ _ _ h => h) (Or.inl ⟨by rfl, ?_⟩) ?_ ?_
                      rotate_left
                      ·intro w'
                       go_simp
                       with_reducible rfl
                      rotate_left
                      ·refine ps_ ?_
                       rfl
                      refine pure_ (i := 24) (N := some 174) (v := ?_) (a' := ?_) #[true, true, true, true, true, true, true, true, true, true, true, true, true, true, true, true, true, true, true, true, true, true, true, true, true] rfl rfl (any_of HT_.out (by kernel_rfl)) (fun _ _ _ h => h) (Or.inl ⟨by rfl, ?_⟩) ?_ ?_
                      rotate_left
                      ·intro w'
                       go_simp
                       with_reducible rfl
                      rotate_left
                      ·refine ps_ ?_
                       rfl
                      refine done_ (done_of HT_.out (by kernel_rfl)) ?_
                      try go_wp2
                      go_roundg k3
                      case measure => have := HJ13.out; have := HK2.out; have := HK3.out; omega
                      case rel => exact ⟨(wrap64 (x147_3 + 1)), rs_, H', ⟨by have := HJ13.out; have := HK2.out; have := HK3.out; omega⟩, ⟨by refine ru ?_; exact HO_10.out⟩, ⟨by refine ru ?_; exact HO_507003.out⟩, ⟨by refine bu ?_; exact BK506.out⟩, ⟨tb⟩⟩
                   ·rw [if_neg c92] at H
                    have c92b0 : decide (x147_3 < t514) = false := decide_eq_false c92
                    clear c92
                    as_aux_lemma =>
                     have H' := Aside0.mk H
                     clear H
                     try go_wp2
                     have n0_ := Aside0.mk (Kd.R_drew HO_10.out)
                     have n1_ := Aside0.mk (Kd.R_drew HO_507003.out)
                     have n2_ := Aside0.mk (blk_drew BK506.out)
                     have n3_ := Aside0.mk (below_drew1 HB.out)
                     clear HO_10
                     clear HO_507003
                     clear BK506
                     clear HB
                     have HO_10 := n0_
                     have HO_507003 := n1_
                     have BK506 := n2_
                     have HB := n3_
                     clear n0_ n1_ n2_ n3_
                     have p550 : 0 ≤ (x147_3 : Int) := of_decide_eq_true (by first | (with_reducible assumption) | assumption)
                     have q550 : x147_3 < (x10_2.length : Int) := of_decide_eq_true (by first | (with_reducible assumption) | assumption)
                     obtain ⟨ad550, e550, hx550_0⟩ := Kd.at_f32 (Kd.R_reads' HO_10.out).2.2 x147_3 p550 q550
                     cases e550
                     replace p550 := eq_true p550
                     replace q550 := eq_true q550
                     have p551 : 0 ≤ (t514 : Int) := of_decide_eq_true (by first | (with_reducible assumption) | assumption)
                     have q551 : t514 < (x10_2.length : Int) := of_decide_eq_true (by first | (with_reducible assumption) | assumption)
                     obtain ⟨ad551, e551, hx551_0⟩ := Kd.at_f32 (Kd.R_reads' HO_10.out).2.2 t514 p551 q551
                     obtain rfl : ad550 = ad551 := (by injection e551)
                     replace p551 := eq_true p551
                     replace q551 := eq_true q551
                     refine start_ (n := 25) (S := fun w' => w'.cell? (ad550.add (x147_3).toNat) = some (.float .f32 (rdOf (0 : Nat) x10_2 x147_3)) ∧ w'.cell? (ad550.add (t514).toNat) = some (.float .f32 (rdOf (0 : Nat) x10_2 t514))) (ds := []) #[false, false, false, false, false, false, false, false, false, false, false, false, false, false, false, false, false, false, false, false, false, false, false, false, false] (by kernel_rfl) rfl rfl ⟨hx550_0, hx551_0⟩ (fun hHeld => ?_); refine with_tabW laws_FnBanks.tab26 laws_FnBanks.bits26 (fun HT_ HW_ => ?_)
                     generalize wr.drew = w95 at HO_10 HO_507003 BK506 HB hx550_0 hx551_0 hHeld ⊢
                     refine pure_ (i := 0) (N := some 150) (v := ?_) (a' := ?_) #[true, false, false, false, false, false, false, false, false, false, false, false, false, false, false, false, false, false, false, false, false, false, false, false, false] rfl rfl (any_of HT_.out (by kernel_rfl)) (fun _ _ _ h => h) (Or.inl ⟨by rfl, ?_⟩) ?_ ?_
                     rotate_left
                     ·intro w'
                      go_simp
                      with_reducible rfl
                     rotate_left
                     ·refine ps_ ?_
                      rfl
                     refine pure_ (i := 1) (N := some 151) (v := ?_) (a' := ?_) #[true, true, false, false, false, false, false, false, false, false, false, false, false, false, false, false, false, false, false, false, false, false, false, false, false] rfl rfl (any_of HT_.out (by kernel_rfl)) (fun _ _ _ h => h) (Or.inl ⟨by rfl, ?_⟩) ?_ ?_
                     rotate_left
                     ·intro w'
                      go_simp
                      with_reducible rfl
                     rotate_left
                     ·refine ps_ ?_
                      rfl
                     refine pure_ (i := 2) (N := some 152) (v := ?_) (a' := ?_) #[true, true, true, false, false, false, false, false, false, false, false, false, false, false, false, false, false, false, false, false, false, false, false, false, false] rfl rfl (any_of HT_.out (by kernel_rfl)) (fun _ _ _ h => h) (Or.inl ⟨by rfl, ?_⟩) ?_ ?_
                     rotate_left
                     ·intro w'
                      go_simp
                      with_reducible rfl
                     rotate_left
                     ·refine ps_ ?_
                      rfl
                     refine pure_ (i := 4) (N := some 154) (v := ?_) (a' := ?_) #[true, true, true, false, true, false, false, false, false, false, false, false, false, false, false, false, false, false, false, false, false, false, false, false, false] rfl rfl (any_of HT_.out (by kernel_rfl)) (fun _ _ _ h => h) (Or.inl ⟨by rfl, ?_⟩) ?_ ?_
                     rotate_left
                     ·intro w'
                      go_simp
                      with_reducible rfl
                     rotate_left
                     ·refine ps_ ?_
                      rfl
                     refine pure_ (i := 5) (N := some 155) (v := ?_) (a' := ?_) #[true, true, true, false, true, true, false, false, false, false, false, false, false, false, false, false, false, false, false, false, false, false, false, false, false] rfl rfl (any_of HT_.out (by kernel_rfl)) (fun _ _ _ h => h) (Or.inl ⟨by rfl, ?_⟩) ?_ ?_
                     rotate_left
                     ·intro w'
                      go_simp
                      with_reducible rfl
                     rotate_left
                     ·refine ps_ ?_
                      rfl
                     refine pure_ (i := 6) (N := some 156) (v := ?_) (a' := ?_) #[true, true, true, false, true, true, true, false, false, false, false, false, false, false, false, false, false, false, false, false, false, false, false, false, false] rfl rfl (any_of HT_.out (by kernel_rfl)) (fun _ _ _ h => h) (Or.inl ⟨by rfl, ?_⟩) ?_ ?_
                     rotate_left
                     ·intro w'
                      go_simp
                      with_reducible rfl
                     rotate_left
                     ·refine ps_ ?_
                      rfl
                     refine take_ (i := 3) (N := some 153) (v := ?_) (a' := ?_) #[true, true, true, true, true, true, true, false, false, false, false, false, false, false, false, false, false, false, false, false, false, false, false, false, false] rfl rfl (take_ofW HT_.out HW_.out (by kernel_rfl)) (fun _ _ _ h => h) (Or.inl ⟨by rfl, ?_⟩) hHeld ?_ ?_
                     rotate_left
                     ·rintro w' ⟨s0, s1⟩
                      go_simp
                      with_reducible rfl
                     rotate_left
                     ·refine ps_ ?_
                      rfl
                     refine take_ (i := 7) (N := some 157) (v := ?_) (a' := ?_) #[true, true, true, true, true, true, true, true, false, false, false, false, false, false, false, false, false, false, false, false, false, false, false, false, false] rfl rfl (take_ofW HT_.out HW_.out (by kernel_rfl)) (fun _ _ _ h => h) (Or.inl ⟨by rfl, ?_⟩) hHeld ?_ ?_
                     rotate_left
                     ·rintro w' ⟨s0, s1⟩
                      go_simp
                      with_reducible rfl
                     rotate_left
                     ·refine ps_ ?_
                      rfl
                     refine pure_ (i := 8) (N := some 158) (v := ?_) (a' := ?_) #[true, true, true, true, true, true, true, true, true, false, false, false, false, false, false, false, false, false, false, false, false, false, false, false, false] rfl rfl (any_of HT_.out (by kernel_rfl)) (fun _ _ _ h => h) (Or.inl ⟨by rfl, ?_⟩) ?_ ?_
                     rotate_left
                     ·intro w'
                      go_simp
                      with_reducible rfl
                     rotate_left
                     ·refine ps_ ?_
                      rfl
                     refine pure_ (i := 9) (N := some 159) (v := ?_) (a' := ?_) #[true, true, true, true, true, true, true, true, true, true, false, false, false, false, false, false, false, false, false, false, false, false, false, false, false] rfl rfl (any_of HT_.out (by kernel_rfl)) (fun _ _ _ h => h) (Or.inl ⟨by rfl, ?_⟩) ?_ ?_
                     rotate_left
                     ·intro w'
                      go_simp
                      with_reducible rfl
                     rotate_left
                     ·refine ps_ ?_
                      rfl
                     refine pure_ (i := 10) (N := some 160) (v := ?_) (a' := ?_) #[true, true, true, true, true, true, true, true, true, true, true, false, false, false, false, false, false, false, false, false, false, false, false, false, false] rfl rfl (any_of HT_.out (by kernel_rfl)) (fun _ _ _ h => h) (Or.inl ⟨by rfl, ?_⟩) ?_ ?_
                     rotate_left
                     ·intro w'
                      go_simp
                      with_reducible rfl
                     rotate_left
                     ·refine ps_ ?_
                      rfl
                     refine pure_ (i := 11) (N := some 161) (v := ?_) (a' := ?_) #[true, true, true, true, true, true, true, true, true, true, true, true, false, false, false, false, false, false, false, false, false, false, false, false, false] rfl rfl (any_of HT_.out (by kernel_rfl)) (fun _ _ _ h => h) (Or.inl ⟨by rfl, ?_⟩) ?_ ?_
                     rotate_left
                     ·intro w'
                      go_simp
                      with_reducible rfl
                     rotate_left
                     ·refine ps_ ?_
                      rfl
                     refine pure_ (i := 12) (N := some 162) (v := ?_) (a' := ?_) #[true, true, true, true, true, true, true, true, true, true, true, true, true, false, false, false, false, false, false, false, false, false, false, false, false] rfl rfl (any_of HT_.out (by kernel_rfl)) (fun _ _ _ h => h) (Or.inl ⟨by rfl, ?_⟩) ?_ ?_
                     rotate_left
                     ·intro w'
                      go_simp
                      with_reducible rfl
                     rotate_left
                     ·refine ps_ ?_
                      rfl
                     refine pure_ (i := 13) (N := some 163) (v := ?_) (a' := ?_) #[true, true, true, true, true, true, true, true, true, true, true, true, true, true, false, false, false, false, false, false, false, false, false, false, false] rfl rfl (any_of HT_.out (by kernel_rfl)) (fun _ _ _ h => h) (Or.inl ⟨by rfl, ?_⟩) ?_ ?_
                     rotate_left
                     ·intro w'
                      go_simp
                      with_reducible rfl
                     rotate_left
                     ·refine ps_ ?_
                      rfl
                     refine pure_ (i := 14) (N := some 164) (v := undef) (a' := ?_) #[true, true, true, true, true, true, true, true, true, true, true, true, true, true, true, false, false, false, false, false, false, false, false, false, false] rfl rfl (any_of HT_.out (by kernel_rfl)) (fun _ _ _ h => h) (Or.inr ⟨by rfl, rfl⟩) ?_ ?_
                     rotate_left
                     ·refine ps_ ?_
                      rfl
                     refine pure_ (i := 15) (N := some 165) (v := undef) (a' := ?_) #[true, true, true, true, true, true, true, true, true, true, true, true, true, true, true, true, false, false, false, false, false, false, false, false, false] rfl rfl (any_of HT_.out (by kernel_rfl)) (fun _ _ _ h => h) (Or.inr ⟨by rfl, rfl⟩) ?_ ?_
                     rotate_left
                     ·refine ps_ ?_
                      rfl
                     refine pure_ (i := 16) (N := some 166) (v := undef) (a' := ?_) #[true, true, true, true, true, true, true, true, true, true, true, true, true, true, true, true, true, false, false, false, false, false, false, false, false] rfl rfl (any_of HT_.out (by kernel_rfl)) (fun _ _ _ h => h) (Or.inr ⟨by rfl, rfl⟩) ?_ ?_
                     rotate_left
                     ·refine ps_ ?_
                      rfl
                     refine pure_ (i := 17) (N := some 167) (v := undef) (a' := ?_) #[true, true, true, true, true, true, true, true, true, true, true, true, true, true, true, true, true, true, false, false, false, false, false, false, false] rfl rfl (any_of HT_.out (by kernel_rfl)) (fun _ _ _ h => h) (Or.inr ⟨by rfl, rfl⟩) ?_ ?_
                     rotate_left
                     ·refine ps_ ?_
                      rfl
                     refine pure_ (i := 18) (N := some 168) (v := undef) (a' := ?_) #[true, true, true, true, true, true, true, true, true, true, true, true, true, true, true, true, true, true, true, false, false, false, false, false, false] rfl rfl (any_of HT_.out (by kernel_rfl)) (fun _ _ _ h => h) (Or.inr ⟨by rfl, rfl⟩) ?_ ?_
                     rotate_left
                     ·refine ps_ ?_
                      rfl
                     refine pure_ (i := 19) (N := some 169) (v := undef) (a' := ?_) #[true, true, true, true, true, true, true, true, true, true, true, true, true, true, true, true, true, true, true, true, false, false, false, false, false] rfl rfl (any_of HT_.out (by kernel_rfl)) (fun _ _ _ h => h) (Or.inr ⟨by rfl, rfl⟩) ?_ ?_
                     rotate_left
                     ·refine ps_ ?_
                      rfl
                     refine pure_ (i := 20) (N := some 170) (v := undef) (a' := ?_) #[true, true, true, true, true, true, true, true, true, true, true, true, true, true, true, true, true, true, true, true, true, false, false, false, false] rfl rfl (any_of HT_.out (by kernel_rfl)) (fun _ _ _ h => h) (Or.inr ⟨by rfl, rfl⟩) ?_ ?_
                     rotate_left
                     ·refine ps_ ?_
                      rfl
                     refine pure_ (i := 21) (N := some 171) (v := undef) (a' := ?_) #[true, true, true, true, true, true, true, true, true, true, true, true, true, true, true, true, true, true, true, true, true, true, false, false, false] rfl rfl (any_of HT_.out (by kernel_rfl)) (fun _ _ _ h => h) (Or.inr ⟨by rfl, rfl⟩) ?_ ?_
                     rotate_left
                     ·refine ps_ ?_
                      rfl
                     refine pure_ (i := 22) (N := some 172) (v := undef) (a' := ?_) #[true, true, true, true, true, true, true, true, true, true, true, true, true, true, true, true, true, true, true, true, true, true, true, false, false] rfl rfl (any_of HT_.out (by kernel_rfl)) (fun _ _ _ h => h) (Or.inr ⟨by rfl, rfl⟩) ?_ ?_
                     rotate_left
                     ·refine ps_ ?_
                      rfl
                     refine pure_ (i := 23) (N := some 173) (v := ?_) (a' := ?_) #[true, true, true, true, true, true, true, true, true, true, true, true, true, true, true, true, true, true, true, true, true, true, true, true, false] rfl rfl (any_of HT_.out (by kernel_rfl)) (fun _ _ _ h => h) (Or.inl ⟨by rfl, ?_⟩) ?_ ?_
                     rotate_left
                     ·intro w'
                      go_simp
                      with_reducible rfl
                     rotate_left
                     ·refine ps_ ?_
                      rfl
                     refine pure_ (i := 24) (N := some 174) (v := ?_) (a' := ?_) #[true, true, true, true, true, true, true, true, true, true, true, true, true, true, true, true, true, true, true, true, true, true, true, true, true] rfl rfl (any_of HT_.out (by kernel_rfl)) (fun _ _ _ h => h) (Or.inl ⟨by rfl, ?_⟩) ?_ ?_
                     rotate_left
                     ·intro w'
                      go_simp
                      with_reducible rfl
                     rotate_left
                     ·refine ps_ ?_
                      rfl
                     refine done_ (done_of HT_.out (by kernel_rfl)) ?_
                     try go_wp2
                     go_roundg k3
                     case measure => have := HJ13.out; have := HK2.out; have := HK3.out; omega
                     case rel => exact ⟨(wrap64 (x147_3 + 1)), rs_, H', ⟨by have := HJ13.out; have := HK2.out; have := HK3.out; omega⟩, ⟨by refine ru ?_; exact HO_10.out⟩, ⟨by refine ru ?_; exact HO_507003.out⟩, ⟨by refine bu ?_; exact BK506.out⟩, ⟨tb⟩⟩
                 ·rw [if_neg c90] at H
                  exact absurd H (by simp)
                ·rw [if_neg c89] at H
                 exact absurd H (by simp)
               ·rw [if_neg c88] at H
                exact absurd H (by simp)
              ·rw [if_neg c87] at H
               exact absurd H (by simp)
             ·rw [if_neg c86] at H
              have c86b0 : decide (x147_3 < (x10_2.length : Int)) = false := decide_eq_false c86
              clear c86
              as_aux_lemma =>
               obtain rfl := Option.some.inj H
               go_wp2
               go_ret
               exact ⟨re_, tb⟩
    ·rw [if_neg c12] at H
     exact absurd H (by simp)
   ·rw [if_neg c10] at H
    exact absurd H (by simp)
  ·rw [if_neg c8] at H
   exact absurd H (by simp)

/-- THE ONE PURE STATEMENT of laws_FnBanks: yours. -/
def laws_FnBanks.Pure : Prop := ∀ (l0 : List Int) (l1 : List Int), l0.length ≤ maxLen → l0.length * 1 ≤ 140737488351232 → (∀ x ∈ l0, (Lit.int .u8 x).wf = true) → l1.length ≤ maxLen → l1.length * 1 ≤ 140737488351232 → (∀ x ∈ l1, (Lit.int .u8 x).wf = true) → ∃ k, laws_FnBanks.f k l0 l1 = some true
theorem laws_FnBanks.walk (P : laws_FnBanks.Pure) (a0 : Option Addr) (len0 cap0 : Nat) (z0 : List Int) (a1 : Option Addr) (len1 cap1 : Nat) (z1 : List Int) (w : World) (w0 : (a0 = none ∧ len0 = 0 ∧ cap0 = 0 ∧ z0 = []) ∨ ∃ x, a0 = some x ∧ len0 ≤ cap0 ∧ cap0 ≤ maxLen ∧ z0.length = cap0 ∧ (∀ i, i < z0.length → w.cell? (x.add i) = some (.int .u8 (z0.getD i 0))) ∧ ∀ n ∈ z0, (Lit.int .u8 n).wf = true) (y0 : len0 * 1 ≤ 140737488351232) (w1 : (a1 = none ∧ len1 = 0 ∧ cap1 = 0 ∧ z1 = []) ∨ ∃ x, a1 = some x ∧ len1 ≤ cap1 ∧ cap1 ≤ maxLen ∧ z1.length = cap1 ∧ (∀ i, i < z1.length → w.cell? (x.add i) = some (.int .u8 (z1.getD i 0))) ∧ ∀ n ∈ z1, (Lit.int .u8 n).wf = true) (y1 : len1 * 1 ≤ 140737488351232) :
  Calls Try.prog 5 #[.slice a0 len0 cap0, .slice a1 len1 cap1] w fun e w' => e = .returned (.bool true) ∧ Below w.heap.size w w' := by
 obtain ⟨l0, rfl, hr0, hm0, hw0, hc0⟩ := ReadsInt.ofRowC w0
 obtain ⟨l1, rfl, hr1, hm1, hw1, hc1⟩ := ReadsInt.ofRowC w1
 obtain ⟨k, h⟩ := P l0 l1 hm0 y0 hw0 hm1 y1 hw1
 refine (laws_FnBanks.calls k _ _ l0 _ _ l1 true w (Kd.C_of_reads (d := (0 : Int)) (h1 := fun _ => rfl) hr0) hc0 (Kd.C_of_reads (d := (0 : Int)) (h1 := fun _ => rfl) hr1) hc1 h rfl).mono ?_
 rintro e w' ⟨rfl, hd⟩
 exact ⟨rfl, hd⟩

end Go.Proofs.Ytcgpomicgbmdlaa.PFnBanks
