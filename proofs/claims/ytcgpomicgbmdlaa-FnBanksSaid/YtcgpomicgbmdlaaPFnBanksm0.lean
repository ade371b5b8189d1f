-- Words and walks of the print, as far as this claim uses them (laid by wip/mkclaim.py of this session). Lean checks it.
import Derived.Test.YtcgpomicgbmdlaaFl
import Derived.Test.YtcgpomicgbmdlaaProg
import Derived.Below
import Derived.Deep.Draws
import Derived.Deep.AppendLies
import Derived.Maps.AppendAt
import Derived.OwnWalk
import Derived.Laws.BytesArg
import Derived.Laws.MakeOwn
import Derived.Laws.OwnMore
import Derived.Deep.OwnRows
import Derived.Tactics
import Derived.Lib.ConvBytes
import Derived.Laws.Slices
import Derived.WalkKit
import Derived.KernelRfl
import Derived.RowKit3
import Derived.Deep.LoopGhost
import Derived.Deep.QuietTactic
import Derived.BigQuiet
import Derived.WideLaws
import Derived.Deep.DeepCutAuto
import Derived.Deep.CutBlock
import Derived.Deep.RegionHeld3
import Derived.Laws.Rows
import Derived.Lib.AppendStr
import Derived.ArgAppend
import Derived.Laws.IdiomCopy
import Derived.OrdersHeld
import Derived.Laws.BitsLemmas
import Derived.RowKit
import Derived.Test.YtcgpomicgbmdlaaWm0
import Derived.Test.YtcgpomicgbmdlaaWm1
namespace Go.Proofs.Ytcgpomicgbmdlaa.PFnBanks
open Go.RowKit Go.Proofs.YtcgpomicgbmdlaaW.PrintWords Go.Proofs.YtcgpomicgbmdlaaW.PrintLast Go.Proofs.YtcgpomicgbmdlaaW.PrintMore
attribute [local go_sem] max2_int min2_int max_two min_two max_three min_three max_four min_four   -- for this text's walks alone
set_option linter.unusedVariables false
set_option linter.unusedSimpArgs false



def errW : Option Int → Value
 | none => .nilIface
 | some c => .iface 0 (.int .i64 c)
theorem errW_none : errW none = .nilIface := rfl
theorem errW_some (c : Int) : errW (some c) = .iface 0 (.int .i64 c) := rfl

theorem info34 : (Try.prog.info? 34).map (fun i => (i.zero, i.size, i.bytes)) = some (some (.float .f32 0), 1, 4) := by kernel_rfl
theorem info39 : (Try.prog.info? 39).map (fun i => (i.zero, i.size, i.bytes)) = some (some (.agg #[(.complex .f32 0 0), (.complex .f32 0 0), (.complex .f32 0 0)]), 3, 24) := by kernel_rfl
theorem info66 : (Try.prog.info? 66).map (fun i => (i.zero, i.size, i.bytes)) = some (some (.agg #[(.int .i64 0), (.complex .f32 0 0), (.complex .f32 0 0), (.int .i64 0), (.complex .f32 0 0), (.complex .f32 0 0), (.complex .f32 0 0), (.int .i64 0)]), 8, 64) := by kernel_rfl
-- the values' own types
/-! #### struct type 39 -/
structure S39 where
 f0 : Cx
 f1 : Cx
 f2 : Cx
def z39 : S39 := ⟨(⟨0, 0⟩ : Cx), (⟨0, 0⟩ : Cx), (⟨0, 0⟩ : Cx)⟩
def k39 : Kd S39 := Kd.iso (Kd.pair Kd.c64 (Kd.pair Kd.c64 Kd.c64)) (fun x : S39 => (x.f0, x.f1, x.f2))
theorem k39_heap : Kd.Heap k39 := Kd.heap_iso _ (Kd.heap_pair Kd.heap_c64 (Kd.heap_pair Kd.heap_c64 Kd.heap_c64))
theorem k39_open {w : World} {x : S39} {cs : List Value} (h : k39.K w x cs) : cs = [.complex .f32 x.f0.re x.f0.im, .complex .f32 x.f1.re x.f1.im, .complex .f32 x.f2.re x.f2.im] := by
 obtain ⟨_, _, rfl, rfl, ⟨_, _, rfl, rfl, rfl⟩⟩ := h
 exact rfl
theorem k39_openM {w : World} {base : Nat} {ok : Nat → Prop} {x : S39} {cs : List Value} (h : k39.M w base ok x cs) : cs = [.complex .f32 x.f0.re x.f0.im, .complex .f32 x.f1.re x.f1.im, .complex .f32 x.f2.re x.f2.im] := by
 obtain ⟨_, _, rfl, rfl, ⟨_, _, rfl, rfl, rfl⟩⟩ := h
 exact rfl
theorem k39_mk (w : World) (x : S39)  : k39.K w x [.complex .f32 x.f0.re x.f0.im, .complex .f32 x.f1.re x.f1.im, .complex .f32 x.f2.re x.f2.im] := ⟨[.complex .f32 x.f0.re x.f0.im], [.complex .f32 x.f1.re x.f1.im, .complex .f32 x.f2.re x.f2.im], rfl, rfl, ⟨[.complex .f32 x.f1.re x.f1.im], [.complex .f32 x.f2.re x.f2.im], rfl, rfl, rfl⟩⟩
theorem k39_mkM (w : World) (base : Nat) (ok : Nat → Prop) (x : S39)  : k39.M w base ok x [.complex .f32 x.f0.re x.f0.im, .complex .f32 x.f1.re x.f1.im, .complex .f32 x.f2.re x.f2.im] := ⟨[.complex .f32 x.f0.re x.f0.im], [.complex .f32 x.f1.re x.f1.im, .complex .f32 x.f2.re x.f2.im], rfl, rfl, ⟨[.complex .f32 x.f1.re x.f1.im], [.complex .f32 x.f2.re x.f2.im], rfl, rfl, rfl⟩⟩
def rd_T39 (xs : List S39) (i : Int) : S39 := xs.getD i.toNat z39
theorem at_T39 {w : World} {A : Option Addr} {n : Nat} {xs : List S39} (h : Kd.C k39 w A n xs) (i : Int) (h0 : 0 ≤ i) (h1 : i < n) : ∃ ad , A = some ad ∧ w.cell? (ad.add (i.toNat * 3)) = some (.complex .f32 (rd_T39 xs i).f0.re (rd_T39 xs i).f0.im) ∧ w.cell? ⟨(ad.add (i.toNat * 3)).block, (ad.add (i.toNat * 3)).off + 1, none⟩ = some (.complex .f32 (rd_T39 xs i).f1.re (rd_T39 xs i).f1.im) ∧ w.cell? ⟨(ad.add (i.toNat * 3)).block, (ad.add (i.toNat * 3)).off + 2, none⟩ = some (.complex .f32 (rd_T39 xs i).f2.re (rd_T39 xs i).f2.im) := by
 obtain ⟨ad, c, e, _, hK, hc0⟩ := Kd.C_get h z39 i h0 h1
 have hc : ∀ j u, c[j]? = some u → w.cell? (ad.add (i.toNat * 3 + j)) = some u := hc0
 obtain rfl := k39_open hK
 exact ⟨ad, e, hc 0 _ rfl, by rw [← add_field _ _ 1 (by omega)]; exact hc 1 _ rfl, by rw [← add_field _ _ 2 (by omega)]; exact hc 2 _ rfl⟩

/-! #### struct type 66 -/
structure S66 where
 f0 : Int
 f1 : Cx
 f2 : Cx
 f3 : Int
 f4 : S39
 f5 : Int
def z66 : S66 := ⟨(0 : Int), (⟨0, 0⟩ : Cx), (⟨0, 0⟩ : Cx), (0 : Int), z39, (0 : Int)⟩
def k66 : Kd S66 := Kd.iso (Kd.pair (Kd.int .i64) (Kd.pair Kd.c64 (Kd.pair Kd.c64 (Kd.pair (Kd.int .i64) (Kd.pair k39 (Kd.int .i64)))))) (fun x : S66 => (x.f0, x.f1, x.f2, x.f3, x.f4, x.f5))
theorem k66_heap : Kd.Heap k66 := Kd.heap_iso _ (Kd.heap_pair (Kd.heap_int .i64) (Kd.heap_pair Kd.heap_c64 (Kd.heap_pair Kd.heap_c64 (Kd.heap_pair (Kd.heap_int .i64) (Kd.heap_pair k39_heap (Kd.heap_int .i64))))))
theorem k66_open {w : World} {x : S66} {cs : List Value} (h : k66.K w x cs) : cs = [.int .i64 x.f0, .complex .f32 x.f1.re x.f1.im, .complex .f32 x.f2.re x.f2.im, .int .i64 x.f3, .complex .f32 x.f4.f0.re x.f4.f0.im, .complex .f32 x.f4.f1.re x.f4.f1.im, .complex .f32 x.f4.f2.re x.f4.f2.im, .int .i64 x.f5] := by
 obtain ⟨_, _, rfl, rfl, ⟨_, _, rfl, rfl, ⟨_, _, rfl, rfl, ⟨_, _, rfl, rfl, ⟨_, _, rfl, s4, rfl⟩⟩⟩⟩⟩ := h
 obtain rfl := k39_open s4
 exact rfl
theorem k66_openM {w : World} {base : Nat} {ok : Nat → Prop} {x : S66} {cs : List Value} (h : k66.M w base ok x cs) : cs = [.int .i64 x.f0, .complex .f32 x.f1.re x.f1.im, .complex .f32 x.f2.re x.f2.im, .int .i64 x.f3, .complex .f32 x.f4.f0.re x.f4.f0.im, .complex .f32 x.f4.f1.re x.f4.f1.im, .complex .f32 x.f4.f2.re x.f4.f2.im, .int .i64 x.f5] := by
 obtain ⟨_, _, rfl, rfl, ⟨_, _, rfl, rfl, ⟨_, _, rfl, rfl, ⟨_, _, rfl, rfl, ⟨_, _, rfl, s4, rfl⟩⟩⟩⟩⟩ := h
 obtain rfl := k39_openM s4
 exact rfl
theorem k66_mk (w : World) (x : S66)  : k66.K w x [.int .i64 x.f0, .complex .f32 x.f1.re x.f1.im, .complex .f32 x.f2.re x.f2.im, .int .i64 x.f3, .complex .f32 x.f4.f0.re x.f4.f0.im, .complex .f32 x.f4.f1.re x.f4.f1.im, .complex .f32 x.f4.f2.re x.f4.f2.im, .int .i64 x.f5] := ⟨[.int .i64 x.f0], [.complex .f32 x.f1.re x.f1.im, .complex .f32 x.f2.re x.f2.im, .int .i64 x.f3, .complex .f32 x.f4.f0.re x.f4.f0.im, .complex .f32 x.f4.f1.re x.f4.f1.im, .complex .f32 x.f4.f2.re x.f4.f2.im, .int .i64 x.f5], rfl, rfl, ⟨[.complex .f32 x.f1.re x.f1.im], [.complex .f32 x.f2.re x.f2.im, .int .i64 x.f3, .complex .f32 x.f4.f0.re x.f4.f0.im, .complex .f32 x.f4.f1.re x.f4.f1.im, .complex .f32 x.f4.f2.re x.f4.f2.im, .int .i64 x.f5], rfl, rfl, ⟨[.complex .f32 x.f2.re x.f2.im], [.int .i64 x.f3, .complex .f32 x.f4.f0.re x.f4.f0.im, .complex .f32 x.f4.f1.re x.f4.f1.im, .complex .f32 x.f4.f2.re x.f4.f2.im, .int .i64 x.f5], rfl, rfl, ⟨[.int .i64 x.f3], [.complex .f32 x.f4.f0.re x.f4.f0.im, .complex .f32 x.f4.f1.re x.f4.f1.im, .complex .f32 x.f4.f2.re x.f4.f2.im, .int .i64 x.f5], rfl, rfl, ⟨[.complex .f32 x.f4.f0.re x.f4.f0.im, .complex .f32 x.f4.f1.re x.f4.f1.im, .complex .f32 x.f4.f2.re x.f4.f2.im], [.int .i64 x.f5], rfl, (k39_mk w x.f4 ), rfl⟩⟩⟩⟩⟩
theorem k66_mkM (w : World) (base : Nat) (ok : Nat → Prop) (x : S66)  : k66.M w base ok x [.int .i64 x.f0, .complex .f32 x.f1.re x.f1.im, .complex .f32 x.f2.re x.f2.im, .int .i64 x.f3, .complex .f32 x.f4.f0.re x.f4.f0.im, .complex .f32 x.f4.f1.re x.f4.f1.im, .complex .f32 x.f4.f2.re x.f4.f2.im, .int .i64 x.f5] := ⟨[.int .i64 x.f0], [.complex .f32 x.f1.re x.f1.im, .complex .f32 x.f2.re x.f2.im, .int .i64 x.f3, .complex .f32 x.f4.f0.re x.f4.f0.im, .complex .f32 x.f4.f1.re x.f4.f1.im, .complex .f32 x.f4.f2.re x.f4.f2.im, .int .i64 x.f5], rfl, rfl, ⟨[.complex .f32 x.f1.re x.f1.im], [.complex .f32 x.f2.re x.f2.im, .int .i64 x.f3, .complex .f32 x.f4.f0.re x.f4.f0.im, .complex .f32 x.f4.f1.re x.f4.f1.im, .complex .f32 x.f4.f2.re x.f4.f2.im, .int .i64 x.f5], rfl, rfl, ⟨[.complex .f32 x.f2.re x.f2.im], [.int .i64 x.f3, .complex .f32 x.f4.f0.re x.f4.f0.im, .complex .f32 x.f4.f1.re x.f4.f1.im, .complex .f32 x.f4.f2.re x.f4.f2.im, .int .i64 x.f5], rfl, rfl, ⟨[.int .i64 x.f3], [.complex .f32 x.f4.f0.re x.f4.f0.im, .complex .f32 x.f4.f1.re x.f4.f1.im, .complex .f32 x.f4.f2.re x.f4.f2.im, .int .i64 x.f5], rfl, rfl, ⟨[.complex .f32 x.f4.f0.re x.f4.f0.im, .complex .f32 x.f4.f1.re x.f4.f1.im, .complex .f32 x.f4.f2.re x.f4.f2.im], [.int .i64 x.f5], rfl, (k39_mkM w base ok x.f4 ), rfl⟩⟩⟩⟩⟩
def rd_T66 (xs : List S66) (i : Int) : S66 := xs.getD i.toNat z66
theorem at_T66 {w : World} {A : Option Addr} {n : Nat} {xs : List S66} (h : Kd.C k66 w A n xs) (i : Int) (h0 : 0 ≤ i) (h1 : i < n) : ∃ ad , A = some ad ∧ w.cell? (ad.add (i.toNat * 8)) = some (.int .i64 (rd_T66 xs i).f0) ∧ w.cell? ⟨(ad.add (i.toNat * 8)).block, (ad.add (i.toNat * 8)).off + 1, none⟩ = some (.complex .f32 (rd_T66 xs i).f1.re (rd_T66 xs i).f1.im) ∧ w.cell? ⟨(ad.add (i.toNat * 8)).block, (ad.add (i.toNat * 8)).off + 2, none⟩ = some (.complex .f32 (rd_T66 xs i).f2.re (rd_T66 xs i).f2.im) ∧ w.cell? ⟨(ad.add (i.toNat * 8)).block, (ad.add (i.toNat * 8)).off + 3, none⟩ = some (.int .i64 (rd_T66 xs i).f3) ∧ w.cell? ⟨(ad.add (i.toNat * 8)).block, (ad.add (i.toNat * 8)).off + 4, none⟩ = some (.complex .f32 (rd_T66 xs i).f4.f0.re (rd_T66 xs i).f4.f0.im) ∧ w.cell? ⟨(ad.add (i.toNat * 8)).block, (ad.add (i.toNat * 8)).off + 5, none⟩ = some (.complex .f32 (rd_T66 xs i).f4.f1.re (rd_T66 xs i).f4.f1.im) ∧ w.cell? ⟨(ad.add (i.toNat * 8)).block, (ad.add (i.toNat * 8)).off + 6, none⟩ = some (.complex .f32 (rd_T66 xs i).f4.f2.re (rd_T66 xs i).f4.f2.im) ∧ w.cell? ⟨(ad.add (i.toNat * 8)).block, (ad.add (i.toNat * 8)).off + 7, none⟩ = some (.int .i64 (rd_T66 xs i).f5) := by
 obtain ⟨ad, c, e, _, hK, hc0⟩ := Kd.C_get h z66 i h0 h1
 have hc : ∀ j u, c[j]? = some u → w.cell? (ad.add (i.toNat * 8 + j)) = some u := hc0
 obtain rfl := k66_open hK
 exact ⟨ad, e, hc 0 _ rfl, by rw [← add_field _ _ 1 (by omega)]; exact hc 1 _ rfl, by rw [← add_field _ _ 2 (by omega)]; exact hc 2 _ rfl, by rw [← add_field _ _ 3 (by omega)]; exact hc 3 _ rfl, by rw [← add_field _ _ 4 (by omega)]; exact hc 4 _ rfl, by rw [← add_field _ _ 5 (by omega)]; exact hc 5 _ rfl, by rw [← add_field _ _ 6 (by omega)]; exact hc 6 _ rfl, by rw [← add_field _ _ 7 (by omega)]; exact hc 7 _ rfl⟩

end Go.Proofs.Ytcgpomicgbmdlaa.PFnBanks
namespace Go.Proofs.Ytcgpomicgbmdlaa.PFnBanks
open Go.RowKit Go.Proofs.YtcgpomicgbmdlaaW.PrintWords Go.Proofs.YtcgpomicgbmdlaaW.PrintLast Go.Proofs.YtcgpomicgbmdlaaW.PrintMore
attribute [local go_sem] max2_int min2_int max_two min_two max_three min_three max_four min_four   -- for this text's walks alone
set_option linter.unusedVariables false
set_option linter.unusedSimpArgs false

/-! ### laws_b10Long: function 9 -/
def laws_b10Long.f (l0 : List Int) (l1 : List Int) : Option (Bool) := if (l0.length : Int) > 1048576 then (some true) else (some (decide ((l1.length : Int) > 1048576)))
set_option maxHeartbeats 8000000 in
set_option maxRecDepth 100000 in
theorem laws_b10Long.calls (A0 : Option Addr) (c0 : Nat) (l0 : List Int) (A1 : Option Addr) (c1 : Nat) (l1 : List Int) (r : Bool) (w : World) (hr0 : Kd.C (Kd.int .u8) w A0 l0.length l0) (hc0 : l0.length ≤ c0) (hr1 : Kd.C (Kd.int .u8) w A1 l1.length l1) (hc1 : l1.length ≤ c1) (h : laws_b10Long.f l0 l1 = some r) :
  Calls Try.prog 9 #[.slice A0 l0.length c0, .slice A1 l1.length c1] w fun e w' => e = .returned (.bool r) ∧ Drawn0 w w' := by
 have HR0 := Aside0.mk hr0
 have HC0 := Aside0.mk hc0
 clear hr0 hc0
 have HR1 := Aside0.mk hr1
 have HC1 := Aside0.mk hc1
 clear hr1 hc1
 have H : (if (l0.length : Int) > 1048576 then (some true) else (some (decide ((l1.length : Int) > 1048576)))) = some r := h
 clear h
 by_cases c3 : (l0.length : Int) > 1048576
 ·rw [if_pos c3] at H
  have c3b0 : decide (1048576 < (l0.length : Int)) = true := decide_eq_true c3
  have c3b1 : decide (1048576 < l0.length) = true := decide_eq_true (by omega)
  clear c3
  obtain rfl := Option.some.inj H
  go_enter Try.func9, Try.ntmps9
  go_wp2
  go_ret
  exact ⟨rs_, dr_⟩
 ·rw [if_neg c3] at H
  have c3b0 : decide (1048576 < (l0.length : Int)) = false := decide_eq_false c3
  have c3b1 : decide (1048576 < l0.length) = false := decide_eq_false (by omega)
  clear c3
  obtain rfl := Option.some.inj H
  go_enter Try.func9, Try.ntmps9
  go_wp2
  go_ret
  exact ⟨rs_, dr_⟩

end Go.Proofs.Ytcgpomicgbmdlaa.PFnBanks
namespace Go.Proofs.Ytcgpomicgbmdlaa.PFnBanks
open Go.RowKit Go.Proofs.YtcgpomicgbmdlaaW.PrintWords Go.Proofs.YtcgpomicgbmdlaaW.PrintLast Go.Proofs.YtcgpomicgbmdlaaW.PrintMore
attribute [local go_sem] max2_int min2_int max_two min_two max_three min_three max_four min_four   -- for this text's walks alone
set_option linter.unusedVariables false
set_option linter.unusedSimpArgs false

/-! ### laws_b10At: function 10 -/
def laws_b10At.f (l0 : List Int) (a1 : Int) (a2 : Int) : Option (Int) := if a2 ≤ 1 then (some 0) else (if a1 < (l0.length : Int) then (if 0 ≤ a1 then (if a2 = 0 then (none) else (some (Int.tmod (wrap64 (rd l0 a1)) a2))) else (none)) else (if a2 = 0 then (none) else (some (Int.tmod (wrap64 ((wrap64 (a1 * 37)) + 11)) a2))))
set_option maxHeartbeats 8000000 in
set_option maxRecDepth 100000 in
theorem laws_b10At.calls (A0 : Option Addr) (c0 : Nat) (l0 : List Int) (a1 : Int) (a2 : Int) (r : Int) (w : World) (hr0 : Kd.C (Kd.int .u8) w A0 l0.length l0) (hc0 : l0.length ≤ c0) (h : laws_b10At.f l0 a1 a2 = some r) :
  Calls Try.prog 10 #[.slice A0 l0.length c0, .int .i64 a1, .int .i64 a2] w fun e w' => e = .returned (.int .i64 r) ∧ Drawn0 w w' := by
 have HR0 := Aside0.mk hr0
 have HC0 := Aside0.mk hc0
 clear hr0 hc0
 have H : (if a2 ≤ 1 then (some 0) else (if a1 < (l0.length : Int) then (if 0 ≤ a1 then (if a2 = 0 then (none) else (some (Int.tmod (wrap64 (rd l0 a1)) a2))) else (none)) else (if a2 = 0 then (none) else (some (Int.tmod (wrap64 ((wrap64 (a1 * 37)) + 11)) a2))))) = some r := h
 clear h
 by_cases c4 : a2 ≤ 1
 ·rw [if_pos c4] at H
  have c4b0 : decide (a2 ≤ 1) = true := decide_eq_true c4
  clear c4
  obtain rfl := Option.some.inj H
  go_enter Try.func10, Try.ntmps10
  go_wp2
  go_ret
  exact ⟨rs_, dr_⟩
 ·rw [if_neg c4] at H
  have c4b0 : decide (a2 ≤ 1) = false := decide_eq_false c4
  clear c4
  by_cases c5 : a1 < (l0.length : Int)
  ·rw [if_pos c5] at H
   have c5b0 : decide (a1 < (l0.length : Int)) = true := decide_eq_true c5
   clear c5
   by_cases c6 : 0 ≤ a1
   ·rw [if_pos c6] at H
    have c6b0 : decide (0 ≤ a1) = true := decide_eq_true c6
    clear c6
    by_cases c7 : a2 = 0
    ·rw [if_pos c7] at H
     exact absurd H (by simp)
    ·rw [if_neg c7] at H
     have c7b0 : (a2 == 0) = false := beq_eq_false_iff_ne.mpr c7
     have c7b1 : (a2 != 0) = true := bne_iff_ne.mpr c7
     obtain rfl := Option.some.inj H
     have p101 : 0 ≤ (a1 : Int) := of_decide_eq_true (by first | (with_reducible assumption) | assumption)
     have q101 : a1 < (l0.length : Int) := of_decide_eq_true (by first | (with_reducible assumption) | assumption)
     obtain ⟨ad101, e101, hx101_0⟩ := Kd.at_int HR0.out a1 p101 q101
     cases e101
     replace p101 := eq_true p101
     replace q101 := eq_true q101
     go_enter Try.func10, Try.ntmps10
     go_wp2
     go_ret
     exact ⟨rs_, dr_⟩
   ·rw [if_neg c6] at H
    exact absurd H (by simp)
  ·rw [if_neg c5] at H
   have c5b0 : decide (a1 < (l0.length : Int)) = false := decide_eq_false c5
   clear c5
   by_cases c8 : a2 = 0
   ·rw [if_pos c8] at H
    exact absurd H (by simp)
   ·rw [if_neg c8] at H
    have c8b0 : (a2 == 0) = false := beq_eq_false_iff_ne.mpr c8
    have c8b1 : (a2 != 0) = true := bne_iff_ne.mpr c8
    obtain rfl := Option.some.inj H
    go_enter Try.func10, Try.ntmps10
    go_wp2
    go_ret
    exact ⟨rs_, dr_⟩

end Go.Proofs.Ytcgpomicgbmdlaa.PFnBanks
namespace Go.Proofs.Ytcgpomicgbmdlaa.PFnBanks
open Go.RowKit Go.Proofs.YtcgpomicgbmdlaaW.PrintWords Go.Proofs.YtcgpomicgbmdlaaW.PrintLast Go.Proofs.YtcgpomicgbmdlaaW.PrintMore
attribute [local go_sem] max2_int min2_int max_two min_two max_three min_three max_four min_four   -- for this text's walks alone
set_option linter.unusedVariables false
set_option linter.unusedSimpArgs false

/-- A state of type 150 at block g of W; what its slices lead to came in by w0. -/
def IsS150 (w0 W : World) (g : Nat) (f0 : List Int) (f1 : Int) (f2 : Int) : Prop := ∃ A0 c0, W.heap[g]? = some (.cells #[.slice A0 f0.length c0, .int .i64 f1, .int .u64 f2] 150 (0, 0)) ∧ w0.heap.size ≤ g ∧ Kd.C (Kd.int .u8) w0 A0 f0.length f0 ∧ f0.length ≤ c0
theorem IsS150.grown {w0 W : World} {g : Nat} {f0 : List Int} {f1 : Int} {f2 : Int} {W1 : World} {row : Option Nat} (h : IsS150 w0 W g f0 f1 f2) (hw : W.grownBy W1 row) (hne : some g ≠ row) : IsS150 w0 W1 g f0 f1 f2 := by
 obtain ⟨A0, c0, hb, hg, hr0, hl0⟩ := h
 exact ⟨A0, c0, blk_grown hb hw hne, hg, hr0, hl0⟩
theorem IsS150.own_neN {w0 W : World} {g : Nat} {f0 : List Int} {f1 : Int} {f2 : Int} {α : Type} {d : Kd α} {e : Nat} {base : Nat} {ok : Nat → Prop} {v : Value} {xs : List α} (h : IsS150 w0 W g f0 f1 f2) (ho : Kd.N d e W base ok v xs) (ht : e ≠ 150) : some g ≠ v.ownBlock := by
 obtain ⟨A0, c0, hb, hg, hr0, hl0⟩ := h
 exact Kd.N_ne ho hb ht
theorem IsS150.fresh {w0 W : World} {g : Nat} {f0 : List Int} {f1 : Int} {f2 : Int} (h : IsS150 w0 W g f0 f1 f2) : ∀ k, W.heap.size ≤ k → k ≠ g := by
 obtain ⟨A0, c0, hb, hg, hr0, hl0⟩ := h
 exact Kd.freshB hb
theorem IsS150.kept {w0 W : World} {g : Nat} {f0 : List Int} {f1 : Int} {f2 : Int} {W1 : World} {S : Nat → Prop} (h : IsS150 w0 W g f0 f1 f2) (hk : Kept W W1 S) (hne : ¬ S g) : IsS150 w0 W1 g f0 f1 f2 := by
 obtain ⟨A0, c0, hb, hg, hr0, hl0⟩ := h
 exact ⟨A0, c0, blk_kept hb hk hne, hg, hr0, hl0⟩
theorem IsS150.below {w0 W : World} {g : Nat} {f0 : List Int} {f1 : Int} {f2 : Int} {W1 : World} (h : IsS150 w0 W g f0 f1 f2) (hw : Below W.heap.size W W1) : IsS150 w0 W1 g f0 f1 f2 := h.grown (grown_of_below hw none) (by simp)
theorem IsS150.alloc {w0 W : World} {g : Nat} {f0 : List Int} {f1 : Int} {f2 : Int} (h : IsS150 w0 W g f0 f1 f2) (o : Obj) : IsS150 w0 (W.alloc o) g f0 f1 f2 := h.below (below_alloc (Below.refl _ _) o)
theorem IsS150.drewN {w0 W : World} {g : Nat} {f0 : List Int} {f1 : Int} {f2 : Int} (h : IsS150 w0 W g f0 f1 f2) (m : Nat) : IsS150 w0 (W.drewN m) g f0 f1 f2 := h
theorem IsS150.drew {w0 W : World} {g : Nat} {f0 : List Int} {f1 : Int} {f2 : Int} (h : IsS150 w0 W g f0 f1 f2) : IsS150 w0 W.drew g f0 f1 f2 := h
theorem IsS150.at_ {w0 W : World} {g : Nat} {f0 : List Int} {f1 : Int} {f2 : Int} {w' : World} {m : Nat} (hq : W.drewN m = w') (h : IsS150 w0 W g f0 f1 f2) : IsS150 w0 w' g f0 f1 f2 := by subst hq; exact IsS150.drewN h m
theorem IsS150.apart {w0 W : World} {g : Nat} {f0 : List Int} {f1 : Int} {f2 : Int} {α : Type} {d : Kd α} {e : Nat} {base : Nat} {ok : Nat → Prop} {v : Value} {xs : List α} (h : IsS150 w0 W g f0 f1 f2) (ho : d.R e W base ok v xs) (ht : ∀ q, q ∈ e :: d.E → q ≠ 150) : d.R e W base (fun k => ok k ∧ k ≠ g) v xs := by
 obtain ⟨A0, c0, hb, hg, hr0, hl0⟩ := h
 exact Kd.R_types ho hb ht
theorem IsS150.own_ne {w0 W : World} {g : Nat} {f0 : List Int} {f1 : Int} {f2 : Int} {α : Type} {d : Kd α} {e : Nat} {base : Nat} {ok : Nat → Prop} {v : Value} {xs : List α} (h : IsS150 w0 W g f0 f1 f2) (ho : d.R e W base ok v xs) (ht : e ≠ 150) : some g ≠ v.ownBlock := by
 obtain ⟨A0, c0, hb, hg, hr0, hl0⟩ := h
 exact Kd.R_ne ho hb ht
theorem IsS150.apartQ {w0 W : World} {g : Nat} {f0 : List Int} {f1 : Int} {f2 : Int} {α : Type} {d : Kd α} {e : Nat} {base : Nat} {ok : Nat → Prop} {v : Value} {xs : List α} (h : IsS150 w0 W g f0 f1 f2) (ho : d.Q e W base ok v xs) (ht : ∀ q, q ∈ e :: d.E → q ≠ 150) : d.Q e W base (fun k => ok k ∧ k ≠ g) v xs := by
 obtain ⟨A0, c0, hb, hg, hr0, hl0⟩ := h
 exact Kd.Q_types ho hb ht
theorem IsS150.own_neQ {w0 W : World} {g : Nat} {f0 : List Int} {f1 : Int} {f2 : Int} {α : Type} {d : Kd α} {e : Nat} {base : Nat} {ok : Nat → Prop} {v : Value} {xs : List α} (h : IsS150 w0 W g f0 f1 f2) (ho : d.Q e W base ok v xs) (ht : e ≠ 150) : some g ≠ v.ownBlock := by
 obtain ⟨A0, c0, hb, hg, hr0, hl0⟩ := h
 exact Kd.Q_ne ho hb ht
theorem IsS150.apartS {w0 W : World} {g : Nat} {f0 : List Int} {f1 : Int} {f2 : Int} {α : Type} {d : Kd α} {e : Nat} {base : Nat} {ok : Nat → Prop} {v : Value} {xs : List α} (h : IsS150 w0 W g f0 f1 f2) (ho : d.S e W base ok v xs) (ht : ∀ q, q ∈ e :: d.E → q ≠ 150) : d.S e W base (fun k => ok k ∧ k ≠ g) v xs := by
 obtain ⟨A0, c0, hb, hg, hr0, hl0⟩ := h
 exact Kd.S_types ho hb ht
theorem IsS150.own_neS {w0 W : World} {g : Nat} {f0 : List Int} {f1 : Int} {f2 : Int} {α : Type} {d : Kd α} {e : Nat} {base : Nat} {ok : Nat → Prop} {v : Value} {xs : List α} (h : IsS150 w0 W g f0 f1 f2) (ho : d.S e W base ok v xs) (ht : e ≠ 150) : some g ≠ v.ownBlock := by
 obtain ⟨A0, c0, hb, hg, hr0, hl0⟩ := h
 exact Kd.S_ne ho hb ht
theorem IsS150.lt {w0 W : World} {g : Nat} {f0 : List Int} {f1 : Int} {f2 : Int} (h : IsS150 w0 W g f0 f1 f2) : g < W.heap.size := by
 obtain ⟨A0, c0, hb, hg, hr0, hl0⟩ := h
 exact blk_lt hb
theorem IsS150.ge {w0 W : World} {g : Nat} {f0 : List Int} {f1 : Int} {f2 : Int} (h : IsS150 w0 W g f0 f1 f2) : w0.heap.size ≤ g := by
 obtain ⟨A0, c0, hb, hg, hr0, hl0⟩ := h
 exact hg
theorem IsS150.ne_blk {w0 W : World} {g : Nat} {f0 : List Int} {f1 : Int} {f2 : Int} {a : Nat} {cs : Array Value} {t : TypeId} {fr : Nat × Nat} (h : IsS150 w0 W g f0 f1 f2) (hb2 : W.heap[a]? = some (.cells cs t fr)) (ht : t ≠ 150) : g ≠ a := by
 obtain ⟨A0, c0, hb, hg, hr0, hl0⟩ := h
 rintro rfl
 rw [hb] at hb2
 injection hb2 with hb2
 injection hb2 with _ ht2
 exact ht ht2.symm
theorem IsS150.far {w0 W : World} {g : Nat} {f0 : List Int} {f1 : Int} {f2 : Int} {p : Addr} (h : IsS150 w0 W g f0 f1 f2) (hne : g ≠ p.block) (u : Value) : IsS150 w0 (W.setCell p u) g f0 f1 f2 := by
 obtain ⟨A0, c0, hb, hg, hr0, hl0⟩ := h
 exact ⟨A0, c0, blk_far hb hne u, hg, hr0, hl0⟩
theorem cellS150_0 {W : World} {g : Nat} {A0 : Option Addr} {c0 : Nat} {f0 : List Int} {f1 : Int} {f2 : Int} (h : W.heap[g]? = some (.cells #[.slice A0 f0.length c0, .int .i64 f1, .int .u64 f2] 150 (0, 0))) : W.cell? ⟨g, 0, none⟩ = some (.slice A0 f0.length c0) := (blk_cell h 0).trans rfl
theorem cellS150_1 {W : World} {g : Nat} {A0 : Option Addr} {c0 : Nat} {f0 : List Int} {f1 : Int} {f2 : Int} (h : W.heap[g]? = some (.cells #[.slice A0 f0.length c0, .int .i64 f1, .int .u64 f2] 150 (0, 0))) : W.cell? ⟨g, 1, none⟩ = some (.int .i64 f1) := (blk_cell h 1).trans rfl
theorem IsS150.set_1 {w0 W : World} {g : Nat} {f0 : List Int} {f1 : Int} {f2 : Int} (h : IsS150 w0 W g f0 f1 f2) (x : Int) : IsS150 w0 (W.setCell ⟨g, 1, none⟩ (.int .i64 x)) g f0 x f2 := by
 obtain ⟨A0, c0, hb, hg, hr0, hl0⟩ := h
 exact ⟨A0, c0, by simpa using blk_set hb 1 (.int .i64 x), hg, hr0, hl0⟩
theorem cellS150_2 {W : World} {g : Nat} {A0 : Option Addr} {c0 : Nat} {f0 : List Int} {f1 : Int} {f2 : Int} (h : W.heap[g]? = some (.cells #[.slice A0 f0.length c0, .int .i64 f1, .int .u64 f2] 150 (0, 0))) : W.cell? ⟨g, 2, none⟩ = some (.int .u64 f2) := (blk_cell h 2).trans rfl
theorem IsS150.set_2 {w0 W : World} {g : Nat} {f0 : List Int} {f1 : Int} {f2 : Int} (h : IsS150 w0 W g f0 f1 f2) (x : Int) : IsS150 w0 (W.setCell ⟨g, 2, none⟩ (.int .u64 x)) g f0 f1 x := by
 obtain ⟨A0, c0, hb, hg, hr0, hl0⟩ := h
 exact ⟨A0, c0, by simpa using blk_set hb 2 (.int .u64 x), hg, hr0, hl0⟩
theorem IsS150.new (w0 W : World) (A0 : Option Addr) (c0 : Nat) (f0 : List Int) (f1 : Int) (f2 : Int) (hB : Below w0.heap.size w0 W) (hr0 : Kd.C (Kd.int .u8) w0 A0 f0.length f0) (hl0 : f0.length ≤ c0) : IsS150 w0 (W.alloc (.cells #[.slice A0 f0.length c0, .int .i64 f1, .int .u64 f2] 150)) W.heap.size f0 f1 f2 := ⟨A0, c0, by simpa using heap_alloc_new W _, hB.size, hr0, hl0⟩
theorem IsS150.up {P : Prop} (h : P := by repeat (first | (with_reducible first | exact hi_ | apply IsS150.alloc | apply IsS150.drewN | apply IsS150.drew | apply IsS150.set_1 | apply IsS150.set_2 | refine IsS150.far ?_ (Aside0.out (by assumption)) _) | exact hi_)) : P := h
theorem IsS150.cellx_0 {w0 W : World} {g : Nat} {f0 : List Int} {f1 : Int} {f2 : Int} (h : IsS150 w0 W g f0 f1 f2) : ∃ A_ c_, W.cell? ⟨g, 0, none⟩ = some (.slice A_ f0.length c_) := by
 obtain ⟨A0, c0, hb, hg, hr0, hl0⟩ := h
 exact ⟨_, _, cellS150_0 hb⟩
theorem IsS150.cell_1 {w0 W : World} {g : Nat} {f0 : List Int} {f1 : Int} {f2 : Int} (h : IsS150 w0 W g f0 f1 f2) : W.cell? ⟨g, 1, none⟩ = some (.int .i64 f1) := by
 obtain ⟨A0, c0, hb, hg, hr0, hl0⟩ := h
 exact cellS150_1 hb
theorem IsS150.cell_2 {w0 W : World} {g : Nat} {f0 : List Int} {f1 : Int} {f2 : Int} (h : IsS150 w0 W g f0 f1 f2) : W.cell? ⟨g, 2, none⟩ = some (.int .u64 f2) := by
 obtain ⟨A0, c0, hb, hg, hr0, hl0⟩ := h
 exact cellS150_2 hb

/-! ### spec_l00From: function 65 -/
def spec_l00From.f (l0 : List Int) : Option (List Int × Int × Int) := some (l0, 0, 0)
set_option maxHeartbeats 8000000 in
set_option maxRecDepth 100000 in
theorem spec_l00From.calls (A0 : Option Addr) (c0 : Nat) (l0 : List Int) (r1 : List Int) (r2 : Int) (r3 : Int) (w0 w : World) (hB : Below w0.heap.size w0 w) (hr0 : Kd.C (Kd.int .u8) w0 A0 l0.length l0) (hc0 : l0.length ≤ c0) (h : spec_l00From.f l0 = some (r1, r2, r3)) :
  Calls Try.prog 65 #[.slice A0 l0.length c0] w fun e w' => ∃ g_ : Nat, e = .returned (.pointer (some ⟨g_, 0, none⟩)) ∧ IsS150 w0 w' g_ r1 r2 r3 ∧ Below w0.heap.size w0 w' ∧ Below w.heap.size w w' := by
 have hu150 := Try.underlying150
 have HR0 := Aside0.mk hr0
 have HC0 := Aside0.mk hc0
 clear hr0 hc0
 have HBW := Aside0.mk (Below.refl w.heap.size w)
 have HW0 := Aside0.mk hB.size
 have HB := Aside0.mk hB
 clear hB
 have H : (some (l0, 0, 0)) = some (r1, r2, r3) := h
 clear h
 simp only [Option.some.injEq, Prod.mk.injEq] at H
 obtain ⟨rfl, rfl, rfl⟩ := H
 go_enter Try.func65, Try.ntmps65
 go_wp2_with (first | ((with_reducible refine gate_dst (N := 5) rfl ?_); refine box_event ?hg (N := 5) ?hd (cs := #[.slice A0 l0.length c0, .int .i64 0, .int .u64 0]) (t := 150) ?hr ?_; (case hd => rfl); (case hg => rfl); (case hr => first | (go_simp; done) | (go_simp; rfl)); intro gb102 hg w2 hbox hb; have n0_ := Aside0.mk (below_step HBW.out hb); have n1_ := Aside0.mk (below_step tb hb); have n2_ := Aside0.mk (hbox); have n3_ := Aside0.mk ((by rw [hg]; exact (below_size (by repeat (first | (with_reducible first | exact HBW.out | apply below_alloc | apply pw_below_drewN | apply below_drew1) | exact HBW.out))) : w.heap.size ≤ gb102)); have n4_ := Aside0.mk ((Nat.le_trans HW0.out (by rw [hg]; exact (below_size (by repeat (first | (with_reducible first | exact HBW.out | apply below_alloc | apply pw_below_drewN | apply below_drew1) | exact HBW.out))) : w.heap.size ≤ gb102) : w0.heap.size ≤ gb102)); clear HBW; clear HB; have HBW := n0_; have HB := n1_; have BK102 := n2_; have GW102 := n3_; have GE102 := n4_; clear n0_ n1_ n2_ n3_ n4_; clear hb hbox hg))
 go_ret
 exact ⟨_, rfl, (show IsS150 w0 _ gb102 l0 0 0 from ⟨_, _, by refine bu ?_; exact BK102.out, GE102.out, HR0.out, HC0.out⟩), tb, by repeat (first | (with_reducible first | exact HBW.out | apply below_alloc | apply pw_below_drewN | apply below_drew1 | refine below_set ?_ GW102.out) | exact HBW.out)⟩

end Go.Proofs.Ytcgpomicgbmdlaa.PFnBanks
namespace Go.Proofs.Ytcgpomicgbmdlaa.PFnBanks
open Go.RowKit Go.Proofs.YtcgpomicgbmdlaaW.PrintWords Go.Proofs.YtcgpomicgbmdlaaW.PrintLast Go.Proofs.YtcgpomicgbmdlaaW.PrintMore
attribute [local go_sem] max2_int min2_int max_two min_two max_three min_three max_four min_four   -- for this text's walks alone
set_option linter.unusedVariables false
set_option linter.unusedSimpArgs false

/-! ### spec_l00Src_next: function 127 -/
def spec_l00Src_next.f (s0_0 : List Int) (s0_1 : Int) (s0_2 : Int) : Option (Int × Int × Int) := if s0_1 < (s0_0.length : Int) then (if 0 ≤ s0_1 then (if (wrap64 (s0_1 + 1)) ≤ (s0_0.length : Int) then (some (wrap64 (rd s0_0 s0_1), wrap64 (s0_1 + 1), IntKind.u64.wrap ((IntKind.u64.wrap ((IntKind.u64.wrap (s0_2 * 6364136223846793005)) + (IntKind.u64.wrap (wrap64 (rd s0_0 s0_1))))) + 1442695040888963407))) else (some (wrap64 (Go.bits .and .u64 ((IntKind.u64.wrap ((IntKind.u64.wrap ((IntKind.u64.wrap (s0_2 * 6364136223846793005)) + (IntKind.u64.wrap (wrap64 (rd s0_0 s0_1))))) + 1442695040888963407)) / 1099511627776) 255), wrap64 (s0_1 + 1), IntKind.u64.wrap ((IntKind.u64.wrap ((IntKind.u64.wrap (s0_2 * 6364136223846793005)) + (IntKind.u64.wrap (wrap64 (rd s0_0 s0_1))))) + 1442695040888963407)))) else (none)) else (if (wrap64 (s0_1 + 1)) ≤ (s0_0.length : Int) then (some (0, wrap64 (s0_1 + 1), IntKind.u64.wrap ((IntKind.u64.wrap ((IntKind.u64.wrap (s0_2 * 6364136223846793005)))) + 1442695040888963407))) else (some (wrap64 (Go.bits .and .u64 ((IntKind.u64.wrap ((IntKind.u64.wrap ((IntKind.u64.wrap (s0_2 * 6364136223846793005)))) + 1442695040888963407)) / 1099511627776) 255), wrap64 (s0_1 + 1), IntKind.u64.wrap ((IntKind.u64.wrap ((IntKind.u64.wrap (s0_2 * 6364136223846793005)))) + 1442695040888963407))))
set_option maxHeartbeats 8000000 in
set_option maxRecDepth 100000 in
theorem spec_l00Src_next.calls (g : Nat) (s0_0 : List Int) (s0_1 : Int) (s0_2 : Int) (r1 : Int) (r2 : Int) (r3 : Int) (w0 w : World) (hI : IsS150 w0 w g s0_0 s0_1 s0_2) (hB : Below w0.heap.size w0 w) (h : spec_l00Src_next.f s0_0 s0_1 s0_2 = some (r1, r2, r3)) :
  Calls Try.prog 127 #[.pointer (some ⟨g, 0, none⟩)] w fun e w' => e = .returned (.int .i64 r1) ∧ IsS150 w0 w' g s0_0 r2 r3 ∧ Below w0.heap.size w0 w' ∧ KeepBut w w' g none := by
 have HI0 := Aside0.mk hI
 have HK := Aside0.mk (KeepBut.refl w g none)
 have HL := Aside0.mk hB.size
 clear hI
 have HW0 := Aside0.mk hB.size
 have HB := Aside0.mk hB
 clear hB
 have H : (if s0_1 < (s0_0.length : Int) then (if 0 ≤ s0_1 then (if (wrap64 (s0_1 + 1)) ≤ (s0_0.length : Int) then (some (wrap64 (rd s0_0 s0_1), wrap64 (s0_1 + 1), IntKind.u64.wrap ((IntKind.u64.wrap ((IntKind.u64.wrap (s0_2 * 6364136223846793005)) + (IntKind.u64.wrap (wrap64 (rd s0_0 s0_1))))) + 1442695040888963407))) else (some (wrap64 (Go.bits .and .u64 ((IntKind.u64.wrap ((IntKind.u64.wrap ((IntKind.u64.wrap (s0_2 * 6364136223846793005)) + (IntKind.u64.wrap (wrap64 (rd s0_0 s0_1))))) + 1442695040888963407)) / 1099511627776) 255), wrap64 (s0_1 + 1), IntKind.u64.wrap ((IntKind.u64.wrap ((IntKind.u64.wrap (s0_2 * 6364136223846793005)) + (IntKind.u64.wrap (wrap64 (rd s0_0 s0_1))))) + 1442695040888963407)))) else (none)) else (if (wrap64 (s0_1 + 1)) ≤ (s0_0.length : Int) then (some (0, wrap64 (s0_1 + 1), IntKind.u64.wrap ((IntKind.u64.wrap ((IntKind.u64.wrap (s0_2 * 6364136223846793005)))) + 1442695040888963407))) else (some (wrap64 (Go.bits .and .u64 ((IntKind.u64.wrap ((IntKind.u64.wrap ((IntKind.u64.wrap (s0_2 * 6364136223846793005)))) + 1442695040888963407)) / 1099511627776) 255), wrap64 (s0_1 + 1), IntKind.u64.wrap ((IntKind.u64.wrap ((IntKind.u64.wrap (s0_2 * 6364136223846793005)))) + 1442695040888963407))))) = some (r1, r2, r3) := h
 clear h
 by_cases c2 : s0_1 < (s0_0.length : Int)
 ·rw [if_pos c2] at H
  have c2b0 : decide (s0_1 < (s0_0.length : Int)) = true := decide_eq_true c2
  clear c2
  by_cases c3 : 0 ≤ s0_1
  ·rw [if_pos c3] at H
   have c3b0 : decide (0 ≤ s0_1) = true := decide_eq_true c3
   clear c3
   by_cases c4 : (wrap64 (s0_1 + 1)) ≤ (s0_0.length : Int)
   ·rw [if_pos c4] at H
    have c4b0 : decide ((wrap64 (s0_1 + 1)) ≤ (s0_0.length : Int)) = true := decide_eq_true c4
    clear c4
    simp only [Option.some.injEq, Prod.mk.injEq] at H
    obtain ⟨rfl, rfl, rfl⟩ := H
    obtain ⟨ASz5_0, cSz5_0, HGz5, hgz5, HSz5_0, HLz5_0⟩ := HI0.out
    have hcz5_0 := cellS150_0 HGz5
    have hcz5_1 := cellS150_1 HGz5
    have hcz5_2 := cellS150_2 HGz5
    have hfz5_1 := blk_frozen HGz5 1
    have hfz5_2 := blk_frozen HGz5 2
    clear HGz5 hgz5
    have p103 : 0 ≤ (s0_1 : Int) := of_decide_eq_true (by first | (with_reducible assumption) | assumption)
    have q103 : s0_1 < (s0_0.length : Int) := of_decide_eq_true (by first | (with_reducible assumption) | assumption)
    obtain ⟨ad103, e103, hx103_0⟩ := Kd.at_int HSz5_0 s0_1 p103 q103
    cases e103
    replace hx103_0 := pw_cell_below HB.out hx103_0
    replace p103 := eq_true p103
    replace q103 := eq_true q103
    go_enter Try.func127, Try.ntmps127
    go_wp2
    repeat (go_quiet (fail); try go_wp2)
    go_ret
    exact ⟨re_, by have hi_ := HI0.out; exact IsS150.up, by have ge_ := IsS150.ge HI0.out; exact tb, by repeat (first | (with_reducible first | exact HK.out | apply KeepBut.set_ | apply keep_drewN | apply keep_drew | apply keep_alloc) | exact HK.out)⟩
   ·rw [if_neg c4] at H
    have c4b0 : decide ((wrap64 (s0_1 + 1)) ≤ (s0_0.length : Int)) = false := decide_eq_false c4
    clear c4
    simp only [Option.some.injEq, Prod.mk.injEq] at H
    obtain ⟨rfl, rfl, rfl⟩ := H
    obtain ⟨ASz6_0, cSz6_0, HGz6, hgz6, HSz6_0, HLz6_0⟩ := HI0.out
    have hcz6_0 := cellS150_0 HGz6
    have hcz6_1 := cellS150_1 HGz6
    have hcz6_2 := cellS150_2 HGz6
    have hfz6_1 := blk_frozen HGz6 1
    have hfz6_2 := blk_frozen HGz6 2
    clear HGz6 hgz6
    have p103 : 0 ≤ (s0_1 : Int) := of_decide_eq_true (by first | (with_reducible assumption) | assumption)
    have q103 : s0_1 < (s0_0.length : Int) := of_decide_eq_true (by first | (with_reducible assumption) | assumption)
    obtain ⟨ad103, e103, hx103_0⟩ := Kd.at_int HSz6_0 s0_1 p103 q103
    cases e103
    replace hx103_0 := pw_cell_below HB.out hx103_0
    replace p103 := eq_true p103
    replace q103 := eq_true q103
    go_enter Try.func127, Try.ntmps127
    go_wp2
    repeat (go_quiet (fail); try go_wp2)
    go_ret
    exact ⟨re_, by have hi_ := HI0.out; exact IsS150.up, by have ge_ := IsS150.ge HI0.out; exact tb, by repeat (first | (with_reducible first | exact HK.out | apply KeepBut.set_ | apply keep_drewN | apply keep_drew | apply keep_alloc) | exact HK.out)⟩
  ·rw [if_neg c3] at H
   exact absurd H (by simp)
 ·rw [if_neg c2] at H
  have c2b0 : decide (s0_1 < (s0_0.length : Int)) = false := decide_eq_false c2
  clear c2
  by_cases c7 : (wrap64 (s0_1 + 1)) ≤ (s0_0.length : Int)
  ·rw [if_pos c7] at H
   have c7b0 : decide ((wrap64 (s0_1 + 1)) ≤ (s0_0.length : Int)) = true := decide_eq_true c7
   clear c7
   simp only [Option.some.injEq, Prod.mk.injEq] at H
   obtain ⟨rfl, rfl, rfl⟩ := H
   obtain ⟨ASz8_0, cSz8_0, HGz8, hgz8, HSz8_0, HLz8_0⟩ := HI0.out
   have hcz8_0 := cellS150_0 HGz8
   have hcz8_1 := cellS150_1 HGz8
   have hcz8_2 := cellS150_2 HGz8
   have hfz8_1 := blk_frozen HGz8 1
   have hfz8_2 := blk_frozen HGz8 2
   clear HGz8 hgz8
   go_enter Try.func127, Try.ntmps127
   go_wp2
   repeat (go_quiet (fail); try go_wp2)
   go_ret
   exact ⟨re_, by have hi_ := HI0.out; exact IsS150.up, by have ge_ := IsS150.ge HI0.out; exact tb, by repeat (first | (with_reducible first | exact HK.out | apply KeepBut.set_ | apply keep_drewN | apply keep_drew | apply keep_alloc) | exact HK.out)⟩
  ·rw [if_neg c7] at H
   have c7b0 : decide ((wrap64 (s0_1 + 1)) ≤ (s0_0.length : Int)) = false := decide_eq_false c7
   clear c7
   simp only [Option.some.injEq, Prod.mk.injEq] at H
   obtain ⟨rfl, rfl, rfl⟩ := H
   obtain ⟨ASz9_0, cSz9_0, HGz9, hgz9, HSz9_0, HLz9_0⟩ := HI0.out
   have hcz9_0 := cellS150_0 HGz9
   have hcz9_1 := cellS150_1 HGz9
   have hcz9_2 := cellS150_2 HGz9
   have hfz9_1 := blk_frozen HGz9 1
   have hfz9_2 := blk_frozen HGz9 2
   clear HGz9 hgz9
   go_enter Try.func127, Try.ntmps127
   go_wp2
   repeat (go_quiet (fail); try go_wp2)
   go_ret
   exact ⟨re_, by have hi_ := HI0.out; exact IsS150.up, by have ge_ := IsS150.ge HI0.out; exact tb, by repeat (first | (with_reducible first | exact HK.out | apply KeepBut.set_ | apply keep_drewN | apply keep_drew | apply keep_alloc) | exact HK.out)⟩

end Go.Proofs.Ytcgpomicgbmdlaa.PFnBanks
namespace Go.Proofs.Ytcgpomicgbmdlaa.PFnBanks
open Go.RowKit Go.Proofs.YtcgpomicgbmdlaaW.PrintWords Go.Proofs.YtcgpomicgbmdlaaW.PrintLast Go.Proofs.YtcgpomicgbmdlaaW.PrintMore
attribute [local go_sem] max2_int min2_int max_two min_two max_three min_three max_four min_four   -- for this text's walks alone
set_option linter.unusedVariables false
set_option linter.unusedSimpArgs false

/-! ### spec_l00Src_pick: function 73 -/
def spec_l00Src_pick.f (s0_0 : List Int) (s0_1 : Int) (s0_2 : Int) (a1 : Int) : Option (Int × Int × Int) := if a1 ≤ 1 then (some (0, s0_1, s0_2)) else ((spec_l00Src_next.f s0_0 s0_1 s0_2).bind fun bt104 => (if a1 > 200 then ((spec_l00Src_next.f s0_0 bt104.2.1 bt104.2.2).bind fun bt107 => (if a1 = 0 then (none) else (some (Int.tmod (wrap64 ((wrap64 (bt104.1 * 256)) + bt107.1)) a1, bt107.2.1, bt107.2.2)))) else (if a1 = 0 then (none) else (some (Int.tmod bt104.1 a1, bt104.2.1, bt104.2.2)))))
set_option maxHeartbeats 8000000 in
set_option maxRecDepth 100000 in
theorem spec_l00Src_pick.calls (g : Nat) (s0_0 : List Int) (s0_1 : Int) (s0_2 : Int) (a1 : Int) (r1 : Int) (r2 : Int) (r3 : Int) (w0 w : World) (hI : IsS150 w0 w g s0_0 s0_1 s0_2) (hB : Below w0.heap.size w0 w) (h : spec_l00Src_pick.f s0_0 s0_1 s0_2 a1 = some (r1, r2, r3)) :
  Calls Try.prog 73 #[.pointer (some ⟨g, 0, none⟩), .int .i64 a1] w fun e w' => e = .returned (.int .i64 r1) ∧ IsS150 w0 w' g s0_0 r2 r3 ∧ Below w0.heap.size w0 w' ∧ KeepBut w w' g none := by
 have HI0 := Aside0.mk hI
 have HK := Aside0.mk (KeepBut.refl w g none)
 have HL := Aside0.mk hB.size
 clear hI
 have HW0 := Aside0.mk hB.size
 have HB := Aside0.mk hB
 clear hB
 have H : (if a1 ≤ 1 then (some (0, s0_1, s0_2)) else ((spec_l00Src_next.f s0_0 s0_1 s0_2).bind fun bt104 => (if a1 > 200 then ((spec_l00Src_next.f s0_0 bt104.2.1 bt104.2.2).bind fun bt107 => (if a1 = 0 then (none) else (some (Int.tmod (wrap64 ((wrap64 (bt104.1 * 256)) + bt107.1)) a1, bt107.2.1, bt107.2.2)))) else (if a1 = 0 then (none) else (some (Int.tmod bt104.1 a1, bt104.2.1, bt104.2.2)))))) = some (r1, r2, r3) := h
 clear h
 by_cases c3 : a1 ≤ 1
 ·rw [if_pos c3] at H
  have c3b0 : decide (a1 ≤ 1) = true := decide_eq_true c3
  clear c3
  simp only [Option.some.injEq, Prod.mk.injEq] at H
  obtain ⟨rfl, rfl, rfl⟩ := H
  go_enter Try.func73, Try.ntmps73
  go_wp2
  go_ret
  exact ⟨re_, by have hi_ := HI0.out; exact IsS150.up, by have ge_ := IsS150.ge HI0.out; exact tb, by repeat (first | (with_reducible first | exact HK.out | apply KeepBut.set_ | apply keep_drewN | apply keep_drew | apply keep_alloc) | exact HK.out)⟩
 ·rw [if_neg c3] at H
  have c3b0 : decide (a1 ≤ 1) = false := decide_eq_false c3
  clear c3
  replace H := Option.bind_eq_some_iff.mp H
  obtain ⟨⟨t104, t105, t106⟩, A40, H⟩ := H
  try dsimp only at H
  have A4 := Aside0.mk A40
  clear A40
  by_cases c5 : a1 > 200
  ·rw [if_pos c5] at H
   have c5b0 : decide (200 < a1) = true := decide_eq_true c5
   clear c5
   replace H := Option.bind_eq_some_iff.mp H
   obtain ⟨⟨t107, t108, t109⟩, A60, H⟩ := H
   try dsimp only at H
   have A6 := Aside0.mk A60
   clear A60
   by_cases c7 : a1 = 0
   ·rw [if_pos c7] at H
    exact absurd H (by simp)
   ·rw [if_neg c7] at H
    have c7b0 : (a1 == 0) = false := beq_eq_false_iff_ne.mpr c7
    have c7b1 : (a1 != 0) = true := bne_iff_ne.mpr c7
    simp only [Option.some.injEq, Prod.mk.injEq] at H
    obtain ⟨rfl, rfl, rfl⟩ := H
    go_enter Try.func73, Try.ntmps73
    go_wp2_with (first | ((with_reducible refine gate_callee (f := 127) rfl ?_); refine gx_ (some 9) Try.func127 #[.pointer (some ⟨g, 0, none⟩)] ?_; (with_reducible refine (spec_l00Src_next.calls g s0_0 s0_1 s0_2 t104 t105 t106 w0 _ ?side1 ?side2 A4.out).mono ?_); (case side1 => have hi_ := HI0.out; exact IsS150.up); (case side2 => have ge_ := IsS150.ge HI0.out; exact tb); rintro e w8 ⟨rfl, hi, hb, hk⟩; refine ⟨_, rfl, ?_⟩; have n0_ := Aside0.mk (KeepBut.trans (by repeat (first | (with_reducible first | exact HK.out | apply KeepBut.set_ | apply keep_drewN | apply keep_drew | apply keep_alloc) | exact HK.out)) hk (.inl rfl)); have n1_ := Aside0.mk (hb); have n2_ := Aside0.mk (hi); clear HK; clear HB; clear HI0; have HK := n0_; have HB := n1_; have HI0 := n2_; clear n0_ n1_ n2_; (try clear hb); (try clear hb2); (try clear hk); (try clear hi)) | ((with_reducible refine gate_callee (f := 127) rfl ?_); refine gx_ (some 15) Try.func127 #[.pointer (some ⟨g, 0, none⟩)] ?_; (with_reducible refine (spec_l00Src_next.calls g s0_0 t105 t106 t107 t108 t109 w0 _ ?side1 ?side2 A6.out).mono ?_); (case side1 => have hi_ := HI0.out; exact IsS150.up); (case side2 => have ge_ := IsS150.ge HI0.out; exact tb); rintro e w9 ⟨rfl, hi, hb, hk⟩; refine ⟨_, rfl, ?_⟩; have n0_ := Aside0.mk (KeepBut.trans (by repeat (first | (with_reducible first | exact HK.out | apply KeepBut.set_ | apply keep_drewN | apply keep_drew | apply keep_alloc) | exact HK.out)) hk (.inl rfl)); have n1_ := Aside0.mk (hb); have n2_ := Aside0.mk (hi); clear HK; clear HB; clear HI0; have HK := n0_; have HB := n1_; have HI0 := n2_; clear n0_ n1_ n2_; (try clear hb); (try clear hb2); (try clear hk); (try clear hi)))
    go_ret
    exact ⟨re_, by have hi_ := HI0.out; exact IsS150.up, by have ge_ := IsS150.ge HI0.out; exact tb, by repeat (first | (with_reducible first | exact HK.out | apply KeepBut.set_ | apply keep_drewN | apply keep_drew | apply keep_alloc) | exact HK.out)⟩
  ·rw [if_neg c5] at H
   have c5b0 : decide (200 < a1) = false := decide_eq_false c5
   clear c5
   by_cases c10 : a1 = 0
   ·rw [if_pos c10] at H
    exact absurd H (by simp)
   ·rw [if_neg c10] at H
    have c10b0 : (a1 == 0) = false := beq_eq_false_iff_ne.mpr c10
    have c10b1 : (a1 != 0) = true := bne_iff_ne.mpr c10
    simp only [Option.some.injEq, Prod.mk.injEq] at H
    obtain ⟨rfl, rfl, rfl⟩ := H
    go_enter Try.func73, Try.ntmps73
    go_wp2_with (first | ((with_reducible refine gate_callee (f := 127) rfl ?_); refine gx_ (some 9) Try.func127 #[.pointer (some ⟨g, 0, none⟩)] ?_; (with_reducible refine (spec_l00Src_next.calls g s0_0 s0_1 s0_2 t104 t105 t106 w0 _ ?side1 ?side2 A4.out).mono ?_); (case side1 => have hi_ := HI0.out; exact IsS150.up); (case side2 => have ge_ := IsS150.ge HI0.out; exact tb); rintro e w11 ⟨rfl, hi, hb, hk⟩; refine ⟨_, rfl, ?_⟩; have n0_ := Aside0.mk (KeepBut.trans (by repeat (first | (with_reducible first | exact HK.out | apply KeepBut.set_ | apply keep_drewN | apply keep_drew | apply keep_alloc) | exact HK.out)) hk (.inl rfl)); have n1_ := Aside0.mk (hb); have n2_ := Aside0.mk (hi); clear HK; clear HB; clear HI0; have HK := n0_; have HB := n1_; have HI0 := n2_; clear n0_ n1_ n2_; (try clear hb); (try clear hb2); (try clear hk); (try clear hi)))
    go_ret
    exact ⟨re_, by have hi_ := HI0.out; exact IsS150.up, by have ge_ := IsS150.ge HI0.out; exact tb, by repeat (first | (with_reducible first | exact HK.out | apply KeepBut.set_ | apply keep_drewN | apply keep_drew | apply keep_alloc) | exact HK.out)⟩

end Go.Proofs.Ytcgpomicgbmdlaa.PFnBanks
namespace Go.Proofs.Ytcgpomicgbmdlaa.PFnBanks
open Go.RowKit Go.Proofs.YtcgpomicgbmdlaaW.PrintWords Go.Proofs.YtcgpomicgbmdlaaW.PrintLast Go.Proofs.YtcgpomicgbmdlaaW.PrintMore
attribute [local go_sem] max2_int min2_int max_two min_two max_three min_three max_four min_four   -- for this text's walks alone
set_option linter.unusedVariables false
set_option linter.unusedSimpArgs false

/-! ### spec_l01Narrow: function 155 -/
def spec_l01Narrow.f (a0 : Nat) : Option (Nat) := if cvok .f64 a0 .f32 = true then (some (cv .f64 a0 .f32)) else (none)
set_option maxHeartbeats 8000000 in
set_option maxRecDepth 100000 in
theorem spec_l01Narrow.calls (a0 : Nat) (r : Nat) (w : World) (h : spec_l01Narrow.f a0 = some r) :
  Calls Try.prog 155 #[.float .f64 a0] w fun e w' => e = .returned (.float .f32 r) ∧ Drawn0 w w' := by
 have H : (if cvok .f64 a0 .f32 = true then (some (cv .f64 a0 .f32)) else (none)) = some r := h
 clear h
 by_cases c2 : cvok .f64 a0 .f32 = true
 ·rw [if_pos c2] at H
  have c2b0 := eq_true c2
  have c2b1 : decide (cvok .f64 a0 .f32 = true) = true := decide_eq_true c2
  clear c2
  obtain rfl := Option.some.inj H
  go_enter Try.func155, Try.ntmps155
  go_wp2
  go_ret
  exact ⟨rs_, dr_⟩
 ·rw [if_neg c2] at H
  exact absurd H (by simp)

/-! ### spec_l01CNarrow: function 123 -/
def spec_l01CNarrow.f (a0 : Cx) : Option (Cx) := (spec_l01Narrow.f a0.re).bind fun t110 => ((spec_l01Narrow.f a0.im).bind fun t111 => (some (⟨t110, t111⟩ : Cx)))
set_option maxHeartbeats 8000000 in
set_option maxRecDepth 100000 in
theorem spec_l01CNarrow.calls (a0 : Cx) (r : Cx) (w : World) (h : spec_l01CNarrow.f a0 = some r) :
  Calls Try.prog 123 #[.complex .f64 a0.re a0.im] w fun e w' => e = .returned (.complex .f32 r.re r.im) ∧ Below w.heap.size w w' := by
 have HB := Aside0.mk (Below.refl w.heap.size w)
 have H : ((spec_l01Narrow.f a0.re).bind fun t110 => ((spec_l01Narrow.f a0.im).bind fun t111 => (some (⟨t110, t111⟩ : Cx)))) = some r := h
 clear h
 replace H := Option.bind_eq_some_iff.mp H
 obtain ⟨t110, A20, H⟩ := H
 try dsimp only at H
 have A2 := Aside0.mk A20
 clear A20
 replace H := Option.bind_eq_some_iff.mp H
 obtain ⟨t111, A30, H⟩ := H
 try dsimp only at H
 have A3 := Aside0.mk A30
 clear A30
 obtain rfl := Option.some.inj H
 go_enter Try.func123, Try.ntmps123
 go_wp2_with (first | ((with_reducible refine gate_callee (f := 155) rfl ?_); refine gx_ (some 5) Try.func155 #[.float .f64 a0.re] ?_; (with_reducible refine (spec_l01Narrow.calls a0.re t110 _ A2.out).mono ?_); rintro e w' ⟨rfl, ⟨nd, rfl⟩⟩; refine ⟨_, rfl, ?_⟩) | ((with_reducible refine gate_callee (f := 155) rfl ?_); refine gx_ (some 8) Try.func155 #[.float .f64 a0.im] ?_; (with_reducible refine (spec_l01Narrow.calls a0.im t111 _ A3.out).mono ?_); rintro e w' ⟨rfl, ⟨nd, rfl⟩⟩; refine ⟨_, rfl, ?_⟩))
 go_ret
 exact ⟨re_, tb⟩

end Go.Proofs.Ytcgpomicgbmdlaa.PFnBanks
namespace Go.Proofs.Ytcgpomicgbmdlaa.PFnBanks
open Go.RowKit Go.Proofs.YtcgpomicgbmdlaaW.PrintWords Go.Proofs.YtcgpomicgbmdlaaW.PrintLast Go.Proofs.YtcgpomicgbmdlaaW.PrintMore
attribute [local go_sem] max2_int min2_int max_two min_two max_three min_three max_four min_four   -- for this text's walks alone
set_option linter.unusedVariables false
set_option linter.unusedSimpArgs false

/-! ### spec_l01WideMul: function 124 -/
def spec_l01WideMul.f (a0 : Cx) (a1 : Cx) : Option (Cx) := if fok .mul .f64 a0.re a1.re = true then (if fok .mul .f64 a0.im a1.im = true then (if fok .sub .f64 (fv .mul .f64 a0.re a1.re) (fv .mul .f64 a0.im a1.im) = true then (if fok .mul .f64 a0.re a1.im = true then (if fok .mul .f64 a0.im a1.re = true then (if fok .add .f64 (fv .mul .f64 a0.re a1.im) (fv .mul .f64 a0.im a1.re) = true then (some (⟨fv .sub .f64 (fv .mul .f64 a0.re a1.re) (fv .mul .f64 a0.im a1.im), fv .add .f64 (fv .mul .f64 a0.re a1.im) (fv .mul .f64 a0.im a1.re)⟩ : Cx)) else (none)) else (none)) else (none)) else (none)) else (none)) else (none)
set_option maxHeartbeats 8000000 in
set_option maxRecDepth 100000 in
theorem spec_l01WideMul.calls (a0 : Cx) (a1 : Cx) (r : Cx) (w : World) (h : spec_l01WideMul.f a0 a1 = some r) :
  Calls Try.prog 124 #[.complex .f64 a0.re a0.im, .complex .f64 a1.re a1.im] w fun e w' => e = .returned (.complex .f64 r.re r.im) ∧ Below w.heap.size w w' := by
 have HB := Aside0.mk (Below.refl w.heap.size w)
 have H : (if fok .mul .f64 a0.re a1.re = true then (if fok .mul .f64 a0.im a1.im = true then (if fok .sub .f64 (fv .mul .f64 a0.re a1.re) (fv .mul .f64 a0.im a1.im) = true then (if fok .mul .f64 a0.re a1.im = true then (if fok .mul .f64 a0.im a1.re = true then (if fok .add .f64 (fv .mul .f64 a0.re a1.im) (fv .mul .f64 a0.im a1.re) = true then (some (⟨fv .sub .f64 (fv .mul .f64 a0.re a1.re) (fv .mul .f64 a0.im a1.im), fv .add .f64 (fv .mul .f64 a0.re a1.im) (fv .mul .f64 a0.im a1.re)⟩ : Cx)) else (none)) else (none)) else (none)) else (none)) else (none)) else (none)) = some r := h
 clear h
 by_cases c3 : fok .mul .f64 a0.re a1.re = true
 ·rw [if_pos c3] at H
  have c3b0 := eq_true c3
  have c3b1 : decide (fok .mul .f64 a0.re a1.re = true) = true := decide_eq_true c3
  clear c3
  by_cases c4 : fok .mul .f64 a0.im a1.im = true
  ·rw [if_pos c4] at H
   have c4b0 := eq_true c4
   have c4b1 : decide (fok .mul .f64 a0.im a1.im = true) = true := decide_eq_true c4
   clear c4
   by_cases c5 : fok .sub .f64 (fv .mul .f64 a0.re a1.re) (fv .mul .f64 a0.im a1.im) = true
   ·rw [if_pos c5] at H
    have c5b0 := eq_true c5
    have c5b1 : decide (fok .sub .f64 (fv .mul .f64 a0.re a1.re) (fv .mul .f64 a0.im a1.im) = true) = true := decide_eq_true c5
    clear c5
    by_cases c6 : fok .mul .f64 a0.re a1.im = true
    ·rw [if_pos c6] at H
     have c6b0 := eq_true c6
     have c6b1 : decide (fok .mul .f64 a0.re a1.im = true) = true := decide_eq_true c6
     clear c6
     by_cases c7 : fok .mul .f64 a0.im a1.re = true
     ·rw [if_pos c7] at H
      have c7b0 := eq_true c7
      have c7b1 : decide (fok .mul .f64 a0.im a1.re = true) = true := decide_eq_true c7
      clear c7
      by_cases c8 : fok .add .f64 (fv .mul .f64 a0.re a1.im) (fv .mul .f64 a0.im a1.re) = true
      ·rw [if_pos c8] at H
       have c8b0 := eq_true c8
       have c8b1 : decide (fok .add .f64 (fv .mul .f64 a0.re a1.im) (fv .mul .f64 a0.im a1.re) = true) = true := decide_eq_true c8
       clear c8
       obtain rfl := Option.some.inj H
       go_enter Try.func124, Try.ntmps124
       go_wp2
       go_ret
       exact ⟨re_, tb⟩
      ·rw [if_neg c8] at H
       exact absurd H (by simp)
     ·rw [if_neg c7] at H
      exact absurd H (by simp)
    ·rw [if_neg c6] at H
     exact absurd H (by simp)
   ·rw [if_neg c5] at H
    exact absurd H (by simp)
  ·rw [if_neg c4] at H
   exact absurd H (by simp)
 ·rw [if_neg c3] at H
  exact absurd H (by simp)

end Go.Proofs.Ytcgpomicgbmdlaa.PFnBanks
namespace Go.Proofs.Ytcgpomicgbmdlaa.PFnBanks
open Go.RowKit Go.Proofs.YtcgpomicgbmdlaaW.PrintWords Go.Proofs.YtcgpomicgbmdlaaW.PrintLast Go.Proofs.YtcgpomicgbmdlaaW.PrintMore
attribute [local go_sem] max2_int min2_int max_two min_two max_three min_three max_four min_four   -- for this text's walks alone
set_option linter.unusedVariables false
set_option linter.unusedSimpArgs false

/-! ### spec_l01Wide: function 125 -/
def spec_l01Wide.f (a0 : Cx) : Option (Cx) := if cvok .f32 a0.re .f64 = true then (if cvok .f32 a0.im .f64 = true then (some (⟨cv .f32 a0.re .f64, cv .f32 a0.im .f64⟩ : Cx)) else (none)) else (none)
set_option maxHeartbeats 8000000 in
set_option maxRecDepth 100000 in
theorem spec_l01Wide.calls (a0 : Cx) (r : Cx) (w : World) (h : spec_l01Wide.f a0 = some r) :
  Calls Try.prog 125 #[.complex .f32 a0.re a0.im] w fun e w' => e = .returned (.complex .f64 r.re r.im) ∧ Below w.heap.size w w' := by
 have HB := Aside0.mk (Below.refl w.heap.size w)
 have H : (if cvok .f32 a0.re .f64 = true then (if cvok .f32 a0.im .f64 = true then (some (⟨cv .f32 a0.re .f64, cv .f32 a0.im .f64⟩ : Cx)) else (none)) else (none)) = some r := h
 clear h
 by_cases c2 : cvok .f32 a0.re .f64 = true
 ·rw [if_pos c2] at H
  have c2b0 := eq_true c2
  have c2b1 : decide (cvok .f32 a0.re .f64 = true) = true := decide_eq_true c2
  clear c2
  by_cases c3 : cvok .f32 a0.im .f64 = true
  ·rw [if_pos c3] at H
   have c3b0 := eq_true c3
   have c3b1 : decide (cvok .f32 a0.im .f64 = true) = true := decide_eq_true c3
   clear c3
   obtain rfl := Option.some.inj H
   go_enter Try.func125, Try.ntmps125
   go_wp2
   go_ret
   exact ⟨re_, tb⟩
  ·rw [if_neg c3] at H
   exact absurd H (by simp)
 ·rw [if_neg c2] at H
  exact absurd H (by simp)

end Go.Proofs.Ytcgpomicgbmdlaa.PFnBanks
namespace Go.Proofs.Ytcgpomicgbmdlaa.PFnBanks
open Go.RowKit Go.Proofs.YtcgpomicgbmdlaaW.PrintWords Go.Proofs.YtcgpomicgbmdlaaW.PrintLast Go.Proofs.YtcgpomicgbmdlaaW.PrintMore
attribute [local go_sem] max2_int min2_int max_two min_two max_three min_three max_four min_four   -- for this text's walks alone
set_option linter.unusedVariables false
set_option linter.unusedSimpArgs false

/-! ### spec_l01Mul: function 67 -/
def spec_l01Mul.f (a0 : Cx) (a1 : Cx) : Option (Cx) := (spec_l01Wide.f a0).bind fun t112 => ((spec_l01Wide.f a1).bind fun t113 => ((spec_l01WideMul.f t112 t113).bind fun t114 => ((spec_l01CNarrow.f t114).bind fun t115 => (some t115))))
set_option maxHeartbeats 8000000 in
set_option maxRecDepth 100000 in
theorem spec_l01Mul.calls (a0 : Cx) (a1 : Cx) (r : Cx) (w : World) (h : spec_l01Mul.f a0 a1 = some r) :
  Calls Try.prog 67 #[.complex .f32 a0.re a0.im, .complex .f32 a1.re a1.im] w fun e w' => e = .returned (.complex .f32 r.re r.im) ∧ Below w.heap.size w w' := by
 have HB := Aside0.mk (Below.refl w.heap.size w)
 have H : ((spec_l01Wide.f a0).bind fun t112 => ((spec_l01Wide.f a1).bind fun t113 => ((spec_l01WideMul.f t112 t113).bind fun t114 => ((spec_l01CNarrow.f t114).bind fun t115 => (some t115))))) = some r := h
 clear h
 replace H := Option.bind_eq_some_iff.mp H
 obtain ⟨t112, A30, H⟩ := H
 try dsimp only at H
 have A3 := Aside0.mk A30
 clear A30
 replace H := Option.bind_eq_some_iff.mp H
 obtain ⟨t113, A40, H⟩ := H
 try dsimp only at H
 have A4 := Aside0.mk A40
 clear A40
 replace H := Option.bind_eq_some_iff.mp H
 obtain ⟨t114, A50, H⟩ := H
 try dsimp only at H
 have A5 := Aside0.mk A50
 clear A50
 replace H := Option.bind_eq_some_iff.mp H
 obtain ⟨t115, A60, H⟩ := H
 try dsimp only at H
 have A6 := Aside0.mk A60
 clear A60
 obtain rfl := Option.some.inj H
 go_enter Try.func67, Try.ntmps67
 go_wp2_with (first | ((with_reducible refine gate_callee (f := 125) rfl ?_); refine gx_ (some 6) Try.func125 #[.complex .f32 a0.re a0.im] ?_; (with_reducible refine (spec_l01Wide.calls a0 t112 _ A3.out).mono ?_); rintro e w7 ⟨rfl, hb⟩; refine ⟨_, rfl, ?_⟩; have n0_ := Aside0.mk (below_step tb hb); clear HB; have HB := n0_; clear n0_; (try clear hb); (try clear hb2); (try clear hk); (try clear hi)) | ((with_reducible refine gate_callee (f := 125) rfl ?_); refine gx_ (some 8) Try.func125 #[.complex .f32 a1.re a1.im] ?_; (with_reducible refine (spec_l01Wide.calls a1 t113 _ A4.out).mono ?_); rintro e w8 ⟨rfl, hb⟩; refine ⟨_, rfl, ?_⟩; have n0_ := Aside0.mk (below_step tb hb); clear HB; have HB := n0_; clear n0_; (try clear hb); (try clear hb2); (try clear hk); (try clear hi)) | ((with_reducible refine gate_callee (f := 124) rfl ?_); refine gx_ (some 9) Try.func124 #[.complex .f64 t112.re t112.im, .complex .f64 t113.re t113.im] ?_; (with_reducible refine (spec_l01WideMul.calls t112 t113 t114 _ A5.out).mono ?_); rintro e w9 ⟨rfl, hb⟩; refine ⟨_, rfl, ?_⟩; have n0_ := Aside0.mk (below_step tb hb); clear HB; have HB := n0_; clear n0_; (try clear hb); (try clear hb2); (try clear hk); (try clear hi)) | ((with_reducible refine gate_callee (f := 123) rfl ?_); refine gx_ (some 10) Try.func123 #[.complex .f64 t114.re t114.im] ?_; (with_reducible refine (spec_l01CNarrow.calls t114 t115 _ A6.out).mono ?_); rintro e w10 ⟨rfl, hb⟩; refine ⟨_, rfl, ?_⟩; have n0_ := Aside0.mk (below_step tb hb); clear HB; have HB := n0_; clear n0_; (try clear hb); (try clear hb2); (try clear hk); (try clear hi)))
 go_ret
 exact ⟨re_, tb⟩

-- NOT PRINTED: function 174 (math_Float32frombits)

/-! ### spec_l01From: function 158 -/
def spec_l01From.f (a0 : Int) : Option (Nat) := some (fromI ((a0) % 4294967296))
set_option maxHeartbeats 8000000 in
set_option maxRecDepth 100000 in
theorem spec_l01From.calls (a0 : Int) (r : Nat) (w : World) (h : spec_l01From.f a0 = some r) :
  Calls Try.prog 158 #[.int .i64 a0] w fun e w' => e = .returned (.float .f32 r) ∧ Drawn0 w w' := by
 have H : (some (fromI ((a0) % 4294967296))) = some r := h
 clear h
 obtain rfl := Option.some.inj H
 go_enter Try.func158, Try.ntmps158
 go_wp2
 go_ret
 exact ⟨rs_, dr_⟩

-- NOT PRINTED: function 178 (math_Float64frombits)

end Go.Proofs.Ytcgpomicgbmdlaa.PFnBanks
namespace Go.Proofs.Ytcgpomicgbmdlaa.PFnBanks
open Go.RowKit Go.Proofs.YtcgpomicgbmdlaaW.PrintWords Go.Proofs.YtcgpomicgbmdlaaW.PrintLast Go.Proofs.YtcgpomicgbmdlaaW.PrintMore
attribute [local go_sem] max2_int min2_int max_two min_two max_three min_three max_four min_four   -- for this text's walks alone
set_option linter.unusedVariables false
set_option linter.unusedSimpArgs false

/-! ### math_NaN: function 175 -/
def math_NaN.f  : Option (Nat) := some (fromI 9221120237041090561)
set_option maxHeartbeats 8000000 in
set_option maxRecDepth 100000 in
theorem math_NaN.calls  (r : Nat) (w : World) (h : math_NaN.f  = some r) :
  Calls Try.prog 175 #[] w fun e w' => e = .returned (.float .f64 r) ∧ Drawn0 w w' := by
 have H : (some (fromI 9221120237041090561)) = some r := h
 clear h
 obtain rfl := Option.some.inj H
 go_enter Try.func175, Try.ntmps175
 go_wp2
 go_ret
 exact ⟨rs_, dr_⟩

end Go.Proofs.Ytcgpomicgbmdlaa.PFnBanks
namespace Go.Proofs.Ytcgpomicgbmdlaa.PFnBanks
open Go.RowKit Go.Proofs.YtcgpomicgbmdlaaW.PrintWords Go.Proofs.YtcgpomicgbmdlaaW.PrintLast Go.Proofs.YtcgpomicgbmdlaaW.PrintMore
attribute [local go_sem] max2_int min2_int max_two min_two max_three min_three max_four min_four   -- for this text's walks alone
set_option linter.unusedVariables false
set_option linter.unusedSimpArgs false

/-! ### spec_l01SineWide: function 159 -/
mutual
def spec_l01SineWide.j0 : Nat → Nat → Bool → Option (Nat)
 | 0, _, _ => none
 | k + 1, x0, x19 => if x19 = true then (some 0) else (if iok .f64 x0 .i64 = true then (if fok .sub .f64 x0 (floatOfInt .f64 (iv .f64 x0 .i64)) = true then (if (flt .f64 (fv .sub .f64 x0 (floatOfInt .f64 (iv .f64 x0 .i64))) 0) = true then (if fok .add .f64 (fv .sub .f64 x0 (floatOfInt .f64 (iv .f64 x0 .i64))) 4607182418800017408 = true then (spec_l01SineWide.j1 k (fv .add .f64 (fv .sub .f64 x0 (floatOfInt .f64 (iv .f64 x0 .i64))) 4607182418800017408)) else (none)) else (spec_l01SineWide.j1 k (fv .sub .f64 x0 (floatOfInt .f64 (iv .f64 x0 .i64))))) else (none)) else (none))
def spec_l01SineWide.j1 : Nat → Nat → Option (Nat)
 | 0, _ => none
 | k + 1, x3 => if (fge .f64 x3 4602678819172646912) = true then (if fok .sub .f64 x3 4602678819172646912 = true then (spec_l01SineWide.j2 k (fv .sub .f64 x3 4602678819172646912) (fge .f64 x3 4602678819172646912)) else (none)) else (spec_l01SineWide.j2 k x3 (fge .f64 x3 4602678819172646912))
def spec_l01SineWide.j2 : Nat → Nat → Bool → Option (Nat)
 | 0, _, _ => none
 | k + 1, x3, x4 => if (fgt .f64 x3 4598175219545276416) = true then (if fok .sub .f64 4602678819172646912 x3 = true then (spec_l01SineWide.j3 k (fv .sub .f64 4602678819172646912 x3) x4) else (none)) else (spec_l01SineWide.j3 k x3 x4)
def spec_l01SineWide.j3 : Nat → Nat → Bool → Option (Nat)
 | 0, _, _ => none
 | k + 1, x3, x4 => if fok .mul .f64 x3 4618760256179416344 = true then (if fok .mul .f64 (fv .mul .f64 x3 4618760256179416344) (fv .mul .f64 x3 4618760256179416344) = true then (spec_l01SineWide.l0 k x4 (fv .mul .f64 x3 4618760256179416344) (fv .mul .f64 (fv .mul .f64 x3 4618760256179416344) (fv .mul .f64 x3 4618760256179416344)) 4607182418800017408 8) else (none)) else (none)
def spec_l01SineWide.l0 : Nat → Bool → Nat → Nat → Nat → Int → Option (Nat)
 | 0, _, _, _, _, _ => none
 | k + 1, x4, x5, x6, x7, x8 => if x8 ≥ 1 then (if fok .mul .f64 x6 x7 = true then (if fok .quo .f64 (fv .mul .f64 x6 x7) (floatOfInt .f64 (wrap64 ((wrap64 (2 * x8)) * (wrap64 ((wrap64 (2 * x8)) + 1))))) = true then (if fok .sub .f64 4607182418800017408 (fv .quo .f64 (fv .mul .f64 x6 x7) (floatOfInt .f64 (wrap64 ((wrap64 (2 * x8)) * (wrap64 ((wrap64 (2 * x8)) + 1)))))) = true then (spec_l01SineWide.l0 k x4 x5 x6 (fv .sub .f64 4607182418800017408 (fv .quo .f64 (fv .mul .f64 x6 x7) (floatOfInt .f64 (wrap64 ((wrap64 (2 * x8)) * (wrap64 ((wrap64 (2 * x8)) + 1))))))) (wrap64 (x8 - 1))) else (none)) else (none)) else (none)) else (if x4 = true then (if fok .mul .f64 x5 x7 = true then (some (fneg .f64 (fv .mul .f64 x5 x7))) else (none)) else (if fok .mul .f64 x5 x7 = true then (some (fv .mul .f64 x5 x7)) else (none)))
end
def spec_l01SineWide.f (k : Nat) (a0 : Nat) : Option (Nat) := if fok .sub .f64 a0 a0 = true then (if (fne .f64 (fv .sub .f64 a0 a0) 0) = true then ((math_NaN.f).bind fun t116 => (some t116)) else (if (fge .f64 a0 4841369599423283200) = true then (spec_l01SineWide.j0 k a0 true) else (spec_l01SineWide.j0 k a0 (fle .f64 a0 14064741636278059008)))) else (none)
theorem spec_l01SineWide.mono_l : ∀ k, (∀ y0 y1, LeO (spec_l01SineWide.j0 k y0 y1) (spec_l01SineWide.j0 (k + 1) y0 y1)) ∧ (∀ y0, LeO (spec_l01SineWide.j1 k y0) (spec_l01SineWide.j1 (k + 1) y0)) ∧ (∀ y0 y1, LeO (spec_l01SineWide.j2 k y0 y1) (spec_l01SineWide.j2 (k + 1) y0 y1)) ∧ (∀ y0 y1, LeO (spec_l01SineWide.j3 k y0 y1) (spec_l01SineWide.j3 (k + 1) y0 y1)) ∧ (∀ y0 y1 y2 y3 y4, LeO (spec_l01SineWide.l0 k y0 y1 y2 y3 y4) (spec_l01SineWide.l0 (k + 1) y0 y1 y2 y3 y4))
 | 0 => ⟨fun _ _ r h => by simp [spec_l01SineWide.j0] at h, fun _ r h => by simp [spec_l01SineWide.j1] at h, fun _ _ r h => by simp [spec_l01SineWide.j2] at h, fun _ _ r h => by simp [spec_l01SineWide.j3] at h, fun _ _ _ _ _ r h => by simp [spec_l01SineWide.l0] at h⟩
 | k + 1 => by
  obtain ⟨ih0, ih1, ih2, ih3, ih4⟩ := spec_l01SineWide.mono_l k
  refine ⟨?_, ?_, ?_, ?_, ?_⟩
  ·intro y0 y1
   unfold spec_l01SineWide.j0
   repeat' first
   | (with_reducible exact ih0 _ _)
   | (with_reducible exact ih1 _)
   | (with_reducible exact ih2 _ _)
   | (with_reducible exact ih3 _ _)
   | (with_reducible exact ih4 _ _ _ _ _)
   | (with_reducible exact LeO.refl _)
   | (with_reducible exact LeO.none _)
   | (with_reducible refine LeO.ite ?_ ?_)
   | (with_reducible refine LeO.bind ?_ (fun _ => ?_))
   | exact ih0 _ _
   | exact ih1 _
   | exact ih2 _ _
   | exact ih3 _ _
   | exact ih4 _ _ _ _ _
   | exact LeO.none _
   | refine LeO.ite ?_ ?_
   | refine LeO.bind ?_ (fun _ => ?_)
  ·intro y0
   unfold spec_l01SineWide.j1
   repeat' first
   | (with_reducible exact ih0 _ _)
   | (with_reducible exact ih1 _)
   | (with_reducible exact ih2 _ _)
   | (with_reducible exact ih3 _ _)
   | (with_reducible exact ih4 _ _ _ _ _)
   | (with_reducible exact LeO.refl _)
   | (with_reducible exact LeO.none _)
   | (with_reducible refine LeO.ite ?_ ?_)
   | (with_reducible refine LeO.bind ?_ (fun _ => ?_))
   | exact ih0 _ _
   | exact ih1 _
   | exact ih2 _ _
   | exact ih3 _ _
   | exact ih4 _ _ _ _ _
   | exact LeO.none _
   | refine LeO.ite ?_ ?_
   | refine LeO.bind ?_ (fun _ => ?_)
  ·intro y0 y1
   unfold spec_l01SineWide.j2
   repeat' first
   | (with_reducible exact ih0 _ _)
   | (with_reducible exact ih1 _)
   | (with_reducible exact ih2 _ _)
   | (with_reducible exact ih3 _ _)
   | (with_reducible exact ih4 _ _ _ _ _)
   | (with_reducible exact LeO.refl _)
   | (with_reducible exact LeO.none _)
   | (with_reducible refine LeO.ite ?_ ?_)
   | (with_reducible refine LeO.bind ?_ (fun _ => ?_))
   | exact ih0 _ _
   | exact ih1 _
   | exact ih2 _ _
   | exact ih3 _ _
   | exact ih4 _ _ _ _ _
   | exact LeO.none _
   | refine LeO.ite ?_ ?_
   | refine LeO.bind ?_ (fun _ => ?_)
  ·intro y0 y1
   unfold spec_l01SineWide.j3
   repeat' first
   | (with_reducible exact ih0 _ _)
   | (with_reducible exact ih1 _)
   | (with_reducible exact ih2 _ _)
   | (with_reducible exact ih3 _ _)
   | (with_reducible exact ih4 _ _ _ _ _)
   | (with_reducible exact LeO.refl _)
   | (with_reducible exact LeO.none _)
   | (with_reducible refine LeO.ite ?_ ?_)
   | (with_reducible refine LeO.bind ?_ (fun _ => ?_))
   | exact ih0 _ _
   | exact ih1 _
   | exact ih2 _ _
   | exact ih3 _ _
   | exact ih4 _ _ _ _ _
   | exact LeO.none _
   | refine LeO.ite ?_ ?_
   | refine LeO.bind ?_ (fun _ => ?_)
  ·intro y0 y1 y2 y3 y4
   unfold spec_l01SineWide.l0
   repeat' first
   | (with_reducible exact ih0 _ _)
   | (with_reducible exact ih1 _)
   | (with_reducible exact ih2 _ _)
   | (with_reducible exact ih3 _ _)
   | (with_reducible exact ih4 _ _ _ _ _)
   | (with_reducible exact LeO.refl _)
   | (with_reducible exact LeO.none _)
   | (with_reducible refine LeO.ite ?_ ?_)
   | (with_reducible refine LeO.bind ?_ (fun _ => ?_))
   | exact ih0 _ _
   | exact ih1 _
   | exact ih2 _ _
   | exact ih3 _ _
   | exact ih4 _ _ _ _ _
   | exact LeO.none _
   | refine LeO.ite ?_ ?_
   | refine LeO.bind ?_ (fun _ => ?_)
theorem spec_l01SineWide.mono : ∀ a0 k, LeO (spec_l01SineWide.f k a0) (spec_l01SineWide.f (k + 1) a0) := by
 intro a0 k
 obtain ⟨ih0, ih1, ih2, ih3, ih4⟩ := spec_l01SineWide.mono_l k
 unfold spec_l01SineWide.f
 repeat' first
   | (with_reducible exact ih0 _ _)
   | (with_reducible exact ih1 _)
   | (with_reducible exact ih2 _ _)
   | (with_reducible exact ih3 _ _)
   | (with_reducible exact ih4 _ _ _ _ _)
   | (with_reducible exact LeO.refl _)
   | (with_reducible exact LeO.none _)
   | (with_reducible refine LeO.ite ?_ ?_)
   | (with_reducible refine LeO.bind ?_ (fun _ => ?_))
   | exact ih0 _ _
   | exact ih1 _
   | exact ih2 _ _
   | exact ih3 _ _
   | exact ih4 _ _ _ _ _
   | exact LeO.none _
   | refine LeO.ite ?_ ?_
   | refine LeO.bind ?_ (fun _ => ?_)
set_option maxHeartbeats 8000000 in
set_option maxRecDepth 100000 in
theorem spec_l01SineWide.calls (k : Nat) (a0 : Nat) (r : Nat) (w : World) (h : spec_l01SineWide.f k a0 = some r) :
  Calls Try.prog 159 #[.float .f64 a0] w fun e w' => e = .returned (.float .f64 r) ∧ Drawn0 w w' := by
 have H : (if fok .sub .f64 a0 a0 = true then (if (fne .f64 (fv .sub .f64 a0 a0) 0) = true then ((math_NaN.f).bind fun t116 => (some t116)) else (if (fge .f64 a0 4841369599423283200) = true then (spec_l01SineWide.j0 k a0 true) else (spec_l01SineWide.j0 k a0 (fle .f64 a0 14064741636278059008)))) else (none)) = some r := h
 clear h
 by_cases c2 : fok .sub .f64 a0 a0 = true
 ·rw [if_pos c2] at H
  have c2b0 := eq_true c2
  have c2b1 : decide (fok .sub .f64 a0 a0 = true) = true := decide_eq_true c2
  clear c2
  by_cases c3 : (fne .f64 (fv .sub .f64 a0 a0) 0) = true
  ·rw [if_pos c3] at H
   have c3b0 : (fne .f64 (fv .sub .f64 a0 a0) 0) = true := c3
   clear c3
   replace H := Option.bind_eq_some_iff.mp H
   obtain ⟨t116, A40, H⟩ := H
   try dsimp only at H
   have A4 := Aside0.mk A40
   clear A40
   obtain rfl := Option.some.inj H
   go_enter Try.func159, Try.ntmps159
   go_wp2_with (first | ((with_reducible refine gate_callee (f := 175) rfl ?_); refine gx_ (some 13) Try.func175 #[] ?_; (with_reducible refine (math_NaN.calls  t116 _ A4.out).mono ?_); rintro e w' ⟨rfl, ⟨nd, rfl⟩⟩; refine ⟨_, rfl, ?_⟩))
   go_ret
   exact ⟨rs_, dr_⟩
  ·rw [if_neg c3] at H
   have c3b0 : (fne .f64 (fv .sub .f64 a0 a0) 0) = false := by simpa using c3
   clear c3
   have HC5 := Aside0.mk H
   clear H
   go_enter Try.func159, Try.ntmps159
   go_upto_region 3 with (fail)
   go_cut [19] (fun v19 wc => ∃ (kq : Nat) (x19_4 : Bool), v19 = .bool x19_4 ∧ Aside0 (spec_l01SineWide.j0 kq a0 x19_4 = some r) ∧ Aside0 (kq ≤ k) ∧ Drawn0 w wc)
   case first =>
    have H := HC5.out
    clear HC5
    by_cases c6 : (fge .f64 a0 4841369599423283200) = true
    ·rw [if_pos c6] at H
     have c6b0 : (fge .f64 a0 4841369599423283200) = true := c6
     clear c6
     (first | rw [c6b0] | (simp only [i64_w, i32_w]; rw [c6b0]) | skip)
     have H' := Aside0.mk H
     clear H
     go_wp2
     go_meet
     case rel => exact ⟨_, (true), rs_, H', ⟨by exact om_⟩, dr_⟩
    ·rw [if_neg c6] at H
     have c6b0 : (fge .f64 a0 4841369599423283200) = false := by simpa using c6
     clear c6
     (first | rw [c6b0] | (simp only [i64_w, i32_w]; rw [c6b0]) | skip)
     have H' := Aside0.mk H
     clear H
     go_wp2
     go_meet
     case rel => exact ⟨_, ((fle .f64 a0 14064741636278059008)), rs_, H', ⟨by exact om_⟩, dr_⟩
   case rest =>
    clear HC5
    try clear c1
    try clear c2
    try clear c2b0
    try clear c2b1
    try clear p2
    try clear c3
    try clear c3b0
    try clear c6
    try clear c6b0
    obtain ⟨kq, x19_4, rfl, HA, HJ4, ⟨mc4, rfl⟩⟩ := hcut
    cases kq with
    | zero => exact absurd HA.out (by simp [spec_l01SineWide.j0])
    | succ kj4 =>
     have H := HA.out
     clear HA
     simp only [spec_l01SineWide.j0] at H
     by_cases c7 : x19_4 = true
     ·subst c7
      rw [if_pos rfl] at H; try dsimp only at H
      obtain rfl := Option.some.inj H
      go_wp2
      go_ret
      exact ⟨rs_, dr_⟩
     ·replace c7 := Bool.eq_false_iff.mpr c7
      subst c7
      have H1 : (if iok .f64 a0 .i64 = true then (if fok .sub .f64 a0 (floatOfInt .f64 (iv .f64 a0 .i64)) = true then (if (flt .f64 (fv .sub .f64 a0 (floatOfInt .f64 (iv .f64 a0 .i64))) 0) = true then (if fok .add .f64 (fv .sub .f64 a0 (floatOfInt .f64 (iv .f64 a0 .i64))) 4607182418800017408 = true then (spec_l01SineWide.j1 kj4 (fv .add .f64 (fv .sub .f64 a0 (floatOfInt .f64 (iv .f64 a0 .i64))) 4607182418800017408)) else (none)) else (spec_l01SineWide.j1 kj4 (fv .sub .f64 a0 (floatOfInt .f64 (iv .f64 a0 .i64))))) else (none)) else (none)) = some r := by rw [if_neg (show ¬ (false = true) by decide)] at H; exact H
      clear H
      have H := H1
      clear H1
      by_cases c8 : iok .f64 a0 .i64 = true
      ·rw [if_pos c8] at H
       have c8b0 := eq_true c8
       have c8b1 : decide (iok .f64 a0 .i64 = true) = true := decide_eq_true c8
       clear c8
       by_cases c9 : fok .sub .f64 a0 (floatOfInt .f64 (iv .f64 a0 .i64)) = true
       ·rw [if_pos c9] at H
        have c9b0 := eq_true c9
        have c9b1 : decide (fok .sub .f64 a0 (floatOfInt .f64 (iv .f64 a0 .i64)) = true) = true := decide_eq_true c9
        clear c9
        have HC10 := Aside0.mk H
        clear H
        go_upto_if 26 with (fail)
        go_cut [3] (fun v3 wc => ∃ (kq : Nat) (x3_9 : Nat), v3 = .float .f64 x3_9 ∧ Aside0 (spec_l01SineWide.j1 kq x3_9 = some r) ∧ Aside0 (kq ≤ kj4) ∧ Drawn0 w wc)
        case first =>
         have H := HC10.out
         clear HC10
         by_cases c11 : (flt .f64 (fv .sub .f64 a0 (floatOfInt .f64 (iv .f64 a0 .i64))) 0) = true
         ·rw [if_pos c11] at H
          have c11b0 : (flt .f64 (fv .sub .f64 a0 (floatOfInt .f64 (iv .f64 a0 .i64))) 0) = true := c11
          clear c11
          (first | rw [c11b0] | (simp only [i64_w, i32_w]; rw [c11b0]) | skip)
          by_cases c12 : fok .add .f64 (fv .sub .f64 a0 (floatOfInt .f64 (iv .f64 a0 .i64))) 4607182418800017408 = true
          ·rw [if_pos c12] at H
           have c12b0 := eq_true c12
           have c12b1 : decide (fok .add .f64 (fv .sub .f64 a0 (floatOfInt .f64 (iv .f64 a0 .i64))) 4607182418800017408 = true) = true := decide_eq_true c12
           clear c12
           have H' := Aside0.mk H
           clear H
           go_wp2
           go_meet
           case rel => exact ⟨_, (fv .add .f64 (fv .sub .f64 a0 (floatOfInt .f64 (iv .f64 a0 .i64))) 4607182418800017408), rs_, H', ⟨by have := HJ4.out; exact om_⟩, dr_⟩
          ·rw [if_neg c12] at H
           exact absurd H (by simp)
         ·rw [if_neg c11] at H
          have c11b0 : (flt .f64 (fv .sub .f64 a0 (floatOfInt .f64 (iv .f64 a0 .i64))) 0) = false := by simpa using c11
          clear c11
          (first | rw [c11b0] | (simp only [i64_w, i32_w]; rw [c11b0]) | skip)
          have H' := Aside0.mk H
          clear H
          go_wp2
          go_meet
          case rel => exact ⟨_, (fv .sub .f64 a0 (floatOfInt .f64 (iv .f64 a0 .i64))), rs_, H', ⟨by have := HJ4.out; exact om_⟩, dr_⟩
        case rest =>
         clear HC10
         try clear c1
         try clear c2
         try clear c2b0
         try clear c2b1
         try clear p2
         try clear c3
         try clear c3b0
         try clear c4
         try clear c6
         try clear c6b0
         try clear c7
         try clear c8
         try clear c8b0
         try clear c8b1
         try clear c9
         try clear c9b0
         try clear c9b1
         try clear c11
         try clear c11b0
         try clear c12
         try clear c12b0
         try clear c12b1
         try clear p2
         obtain ⟨kq, x3_9, rfl, HA, HJ9, ⟨mc9, rfl⟩⟩ := hcut
         cases kq with
         | zero => exact absurd HA.out (by simp [spec_l01SineWide.j1])
         | succ kj9 =>
          have H := HA.out
          clear HA
          simp only [spec_l01SineWide.j1] at H
          have HC13 := Aside0.mk H
          clear H
          go_upto_if 31 with (fail)
          go_cut [3, 4] (fun v3 v4 wc => ∃ (kq : Nat) (x3_12 : Nat) (x4_12 : Bool), v3 = .float .f64 x3_12 ∧ v4 = .bool x4_12 ∧ Aside0 (spec_l01SineWide.j2 kq x3_12 x4_12 = some r) ∧ Aside0 (kq ≤ kj9) ∧ Drawn0 w wc)
          case first =>
           have H := HC13.out
           clear HC13
           by_cases c14 : (fge .f64 x3_9 4602678819172646912) = true
           ·rw [if_pos c14] at H
            have c14b0 : (fge .f64 x3_9 4602678819172646912) = true := c14
            clear c14
            (first | rw [c14b0] | (simp only [i64_w, i32_w]; rw [c14b0]) | skip)
            by_cases c15 : fok .sub .f64 x3_9 4602678819172646912 = true
            ·rw [if_pos c15] at H
             have c15b0 := eq_true c15
             have c15b1 : decide (fok .sub .f64 x3_9 4602678819172646912 = true) = true := decide_eq_true c15
             clear c15
             have H' := Aside0.mk H
             clear H
             go_wp2
             go_meet
             case rel => exact ⟨_, (fv .sub .f64 x3_9 4602678819172646912), ((fge .f64 x3_9 4602678819172646912)), rs_, rs_, H', ⟨by have := HJ4.out; have := HJ9.out; exact om_⟩, dr_⟩
            ·rw [if_neg c15] at H
             exact absurd H (by simp)
           ·rw [if_neg c14] at H
            have c14b0 : (fge .f64 x3_9 4602678819172646912) = false := by simpa using c14
            clear c14
            (first | rw [c14b0] | (simp only [i64_w, i32_w]; rw [c14b0]) | skip)
            have H' := Aside0.mk H
            clear H
            go_wp2
            go_meet
            case rel => exact ⟨_, (x3_9), ((fge .f64 x3_9 4602678819172646912)), rs_, rs_, H', ⟨by have := HJ4.out; have := HJ9.out; exact om_⟩, dr_⟩
          case rest =>
           clear HC13
           try clear c1
           try clear c2
           try clear c2b0
           try clear c2b1
           try clear p2
           try clear c3
           try clear c3b0
           try clear c4
           try clear c6
           try clear c6b0
           try clear c7
           try clear c8
           try clear c8b0
           try clear c8b1
           try clear c9
           try clear c9b0
           try clear c9b1
           try clear c11
           try clear c11b0
           try clear c12
           try clear c12b0
           try clear c12b1
           try clear c14
           try clear c14b0
           try clear c15
           try clear c15b0
           try clear c15b1
           try clear p2
           obtain ⟨kq, x3_12, x4_12, rfl, rfl, HA, HJ12, ⟨mc12, rfl⟩⟩ := hcut
           cases kq with
           | zero => exact absurd HA.out (by simp [spec_l01SineWide.j2])
           | succ kj12 =>
            have H := HA.out
            clear HA
            simp only [spec_l01SineWide.j2] at H
            have HC16 := Aside0.mk H
            clear H
            go_upto_if 35 with (fail)
            go_cut [3] (fun v3 wc => ∃ (kq : Nat) (x3_15 : Nat), v3 = .float .f64 x3_15 ∧ Aside0 (spec_l01SineWide.j3 kq x3_15 x4_12 = some r) ∧ Aside0 (kq ≤ kj12) ∧ Drawn0 w wc)
            case first =>
             have H := HC16.out
             clear HC16
             by_cases c17 : (fgt .f64 x3_12 4598175219545276416) = true
             ·rw [if_pos c17] at H
              have c17b0 : (fgt .f64 x3_12 4598175219545276416) = true := c17
              clear c17
              (first | rw [c17b0] | (simp only [i64_w, i32_w]; rw [c17b0]) | skip)
              by_cases c18 : fok .sub .f64 4602678819172646912 x3_12 = true
              ·rw [if_pos c18] at H
               have c18b0 := eq_true c18
               have c18b1 : decide (fok .sub .f64 4602678819172646912 x3_12 = true) = true := decide_eq_true c18
               clear c18
               have H' := Aside0.mk H
               clear H
               go_wp2
               go_meet
               case rel => exact ⟨_, (fv .sub .f64 4602678819172646912 x3_12), rs_, H', ⟨by have := HJ4.out; have := HJ9.out; have := HJ12.out; exact om_⟩, dr_⟩
              ·rw [if_neg c18] at H
               exact absurd H (by simp)
             ·rw [if_neg c17] at H
              have c17b0 : (fgt .f64 x3_12 4598175219545276416) = false := by simpa using c17
              clear c17
              (first | rw [c17b0] | (simp only [i64_w, i32_w]; rw [c17b0]) | skip)
              have H' := Aside0.mk H
              clear H
              go_wp2
              go_meet
              case rel => exact ⟨_, (x3_12), rs_, H', ⟨by have := HJ4.out; have := HJ9.out; have := HJ12.out; exact om_⟩, dr_⟩
            case rest =>
             clear HC16
             try clear c1
             try clear c2
             try clear c2b0
             try clear c2b1
             try clear p2
             try clear c3
             try clear c3b0
             try clear c4
             try clear c6
             try clear c6b0
             try clear c7
             try clear c8
             try clear c8b0
             try clear c8b1
             try clear c9
             try clear c9b0
             try clear c9b1
             try clear c11
             try clear c11b0
             try clear c12
             try clear c12b0
             try clear c12b1
             try clear c14
             try clear c14b0
             try clear c15
             try clear c15b0
             try clear c15b1
             try clear c17
             try clear c17b0
             try clear c18
             try clear c18b0
             try clear c18b1
             try clear p2
             obtain ⟨kq, x3_15, rfl, HA, HJ15, ⟨mc15, rfl⟩⟩ := hcut
             cases kq with
             | zero => exact absurd HA.out (by simp [spec_l01SineWide.j3])
             | succ kj15 =>
              have H := HA.out
              clear HA
              simp only [spec_l01SineWide.j3] at H
              by_cases c19 : fok .mul .f64 x3_15 4618760256179416344 = true
              ·rw [if_pos c19] at H
               have c19b0 := eq_true c19
               have c19b1 : decide (fok .mul .f64 x3_15 4618760256179416344 = true) = true := decide_eq_true c19
               clear c19
               by_cases c20 : fok .mul .f64 (fv .mul .f64 x3_15 4618760256179416344) (fv .mul .f64 x3_15 4618760256179416344) = true
               ·rw [if_pos c20] at H
                have c20b0 := eq_true c20
                have c20b1 : decide (fok .mul .f64 (fv .mul .f64 x3_15 4618760256179416344) (fv .mul .f64 x3_15 4618760256179416344) = true) = true := decide_eq_true c20
                clear c20
                have H' := Aside0.mk H
                clear H
                go_wp2
                go_loopg [7, 8] kj15 (fun kq v7 v8 w' => ∃ (x7_5 : Nat) (x8_5 : Int), v7 = .float .f64 x7_5 ∧ v8 = .int .i64 x8_5 ∧ Aside0 (spec_l01SineWide.l0 kq x4_12 (fv .mul .f64 x3_15 4618760256179416344) (fv .mul .f64 (fv .mul .f64 x3_15 4618760256179416344) (fv .mul .f64 x3_15 4618760256179416344)) x7_5 x8_5 = some r) ∧ Aside0 (kq ≤ kj15) ∧ Drawn0 w w')
                case atStart => exact ⟨(4607182418800017408), (8), rs_, rs_, H', ⟨Nat.le_refl _⟩, dr_⟩
                case round =>
                 clear H'
                 try clear c1
                 try clear c2
                 try clear c2b0
                 try clear c2b1
                 try clear p2
                 try clear c3
                 try clear c3b0
                 try clear c4
                 try clear c6
                 try clear c6b0
                 try clear c7
                 try clear c8
                 try clear c8b0
                 try clear c8b1
                 try clear c9
                 try clear c9b0
                 try clear c9b1
                 try clear c11
                 try clear c11b0
                 try clear c12
                 try clear c12b0
                 try clear c12b1
                 try clear c14
                 try clear c14b0
                 try clear c15
                 try clear c15b0
                 try clear c15b1
                 try clear c17
                 try clear c17b0
                 try clear c18
                 try clear c18b0
                 try clear c18b1
                 try clear c19
                 try clear c19b0
                 try clear c19b1
                 try clear c20
                 try clear c20b0
                 try clear c20b1
                 try clear p2
                 obtain ⟨x7_5, x8_5, rfl, rfl, HA, HK5, ⟨m5, rfl⟩⟩ := hrel
                 cases gk with
                 | zero => exact absurd HA.out (by simp [spec_l01SineWide.l0])
                 | succ k5 =>
                  have H := HA.out
                  clear HA
                  simp only [spec_l01SineWide.l0] at H
                  by_cases c21 : x8_5 ≥ 1
                  ·rw [if_pos c21] at H
                   have c21b0 : decide (1 ≤ x8_5) = true := decide_eq_true c21
                   clear c21
                   by_cases c22 : fok .mul .f64 (fv .mul .f64 (fv .mul .f64 x3_15 4618760256179416344) (fv .mul .f64 x3_15 4618760256179416344)) x7_5 = true
                   ·rw [if_pos c22] at H
                    have c22b0 := eq_true c22
                    have c22b1 : decide (fok .mul .f64 (fv .mul .f64 (fv .mul .f64 x3_15 4618760256179416344) (fv .mul .f64 x3_15 4618760256179416344)) x7_5 = true) = true := decide_eq_true c22
                    clear c22
                    by_cases c23 : fok .quo .f64 (fv .mul .f64 (fv .mul .f64 (fv .mul .f64 x3_15 4618760256179416344) (fv .mul .f64 x3_15 4618760256179416344)) x7_5) (floatOfInt .f64 (wrap64 ((wrap64 (2 * x8_5)) * (wrap64 ((wrap64 (2 * x8_5)) + 1))))) = true
                    ·rw [if_pos c23] at H
                     have c23b0 := eq_true c23
                     have c23b1 : decide (fok .quo .f64 (fv .mul .f64 (fv .mul .f64 (fv .mul .f64 x3_15 4618760256179416344) (fv .mul .f64 x3_15 4618760256179416344)) x7_5) (floatOfInt .f64 (wrap64 ((wrap64 (2 * x8_5)) * (wrap64 ((wrap64 (2 * x8_5)) + 1))))) = true) = true := decide_eq_true c23
                     by_cases c24 : fok .sub .f64 4607182418800017408 (fv .quo .f64 (fv .mul .f64 (fv .mul .f64 (fv .mul .f64 x3_15 4618760256179416344) (fv .mul .f64 x3_15 4618760256179416344)) x7_5) (floatOfInt .f64 (wrap64 ((wrap64 (2 * x8_5)) * (wrap64 ((wrap64 (2 * x8_5)) + 1)))))) = true
                     ·rw [if_pos c24] at H
                      have c24b0 := eq_true c24
                      have c24b1 : decide (fok .sub .f64 4607182418800017408 (fv .quo .f64 (fv .mul .f64 (fv .mul .f64 (fv .mul .f64 x3_15 4618760256179416344) (fv .mul .f64 x3_15 4618760256179416344)) x7_5) (floatOfInt .f64 (wrap64 ((wrap64 (2 * x8_5)) * (wrap64 ((wrap64 (2 * x8_5)) + 1)))))) = true) = true := decide_eq_true c24
                      have H' := Aside0.mk H
                      clear H
                      go_wp2
                      go_roundg k5
                      case measure => have := HJ4.out; have := HJ9.out; have := HJ12.out; have := HJ15.out; have := HK5.out; omega
                      case rel => exact ⟨(fv .sub .f64 4607182418800017408 (fv .quo .f64 (fv .mul .f64 (fv .mul .f64 (fv .mul .f64 x3_15 4618760256179416344) (fv .mul .f64 x3_15 4618760256179416344)) x7_5) (floatOfInt .f64 (wrap64 ((wrap64 (2 * x8_5)) * (wrap64 ((wrap64 (2 * x8_5)) + 1))))))), (wrap64 (x8_5 - 1)), rs_, rs_, H', ⟨by have := HJ4.out; have := HJ9.out; have := HJ12.out; have := HJ15.out; have := HK5.out; omega⟩, dr_⟩
                     ·rw [if_neg c24] at H
                      exact absurd H (by simp)
                    ·rw [if_neg c23] at H
                     exact absurd H (by simp)
                   ·rw [if_neg c22] at H
                    exact absurd H (by simp)
                  ·rw [if_neg c21] at H
                   have c21b0 : decide (1 ≤ x8_5) = false := decide_eq_false c21
                   clear c21
                   by_cases c25 : x4_12 = true
                   ·subst c25
                    rw [if_pos rfl] at H; try dsimp only at H
                    by_cases c26 : fok .mul .f64 (fv .mul .f64 x3_15 4618760256179416344) x7_5 = true
                    ·rw [if_pos c26] at H
                     have c26b0 := eq_true c26
                     have c26b1 : decide (fok .mul .f64 (fv .mul .f64 x3_15 4618760256179416344) x7_5 = true) = true := decide_eq_true c26
                     clear c26
                     obtain rfl := Option.some.inj H
                     go_wp2
                     go_ret
                     exact ⟨rs_, dr_⟩
                    ·rw [if_neg c26] at H
                     exact absurd H (by simp)
                   ·replace c25 := Bool.eq_false_iff.mpr c25
                    subst c25
                    have H1 : (if fok .mul .f64 (fv .mul .f64 x3_15 4618760256179416344) x7_5 = true then (some (fv .mul .f64 (fv .mul .f64 x3_15 4618760256179416344) x7_5)) else (none)) = some r := by rw [if_neg (show ¬ (false = true) by decide)] at H; exact H
                    clear H
                    have H := H1
                    clear H1
                    by_cases c27 : fok .mul .f64 (fv .mul .f64 x3_15 4618760256179416344) x7_5 = true
                    ·rw [if_pos c27] at H
                     have c27b0 := eq_true c27
                     have c27b1 : decide (fok .mul .f64 (fv .mul .f64 x3_15 4618760256179416344) x7_5 = true) = true := decide_eq_true c27
                     clear c27
                     obtain rfl := Option.some.inj H
                     go_wp2
                     go_ret
                     exact ⟨rs_, dr_⟩
                    ·rw [if_neg c27] at H
                     exact absurd H (by simp)
               ·rw [if_neg c20] at H
                exact absurd H (by simp)
              ·rw [if_neg c19] at H
               exact absurd H (by simp)
       ·rw [if_neg c9] at H
        exact absurd H (by simp)
      ·rw [if_neg c8] at H
       exact absurd H (by simp)
 ·rw [if_neg c2] at H
  exact absurd H (by simp)

end Go.Proofs.Ytcgpomicgbmdlaa.PFnBanks
namespace Go.Proofs.Ytcgpomicgbmdlaa.PFnBanks
open Go.RowKit Go.Proofs.YtcgpomicgbmdlaaW.PrintWords Go.Proofs.YtcgpomicgbmdlaaW.PrintLast Go.Proofs.YtcgpomicgbmdlaaW.PrintMore
attribute [local go_sem] max2_int min2_int max_two min_two max_three min_three max_four min_four   -- for this text's walks alone
set_option linter.unusedVariables false
set_option linter.unusedSimpArgs false

/-! ### spec_l01Phasor: function 138 -/
mutual
def spec_l01Phasor.j0 : Nat → Nat → Bool → Option (Cx)
 | 0, _, _ => none
 | k + 1, x0, x19 => if x19 = true then (some (⟨1065353216, 0⟩ : Cx)) else (if iok .f64 x0 .i64 = true then (if fok .sub .f64 x0 (floatOfInt .f64 (iv .f64 x0 .i64)) = true then (if (flt .f64 (fv .sub .f64 x0 (floatOfInt .f64 (iv .f64 x0 .i64))) 0) = true then (if fok .add .f64 (fv .sub .f64 x0 (floatOfInt .f64 (iv .f64 x0 .i64))) 4607182418800017408 = true then (spec_l01Phasor.j1 k (fv .add .f64 (fv .sub .f64 x0 (floatOfInt .f64 (iv .f64 x0 .i64))) 4607182418800017408)) else (none)) else (spec_l01Phasor.j1 k (fv .sub .f64 x0 (floatOfInt .f64 (iv .f64 x0 .i64))))) else (none)) else (none))
def spec_l01Phasor.j1 : Nat → Nat → Option (Cx)
 | 0, _ => none
 | k + 1, x3 => spec_l01Phasor.l0 k x3 0
def spec_l01Phasor.l0 : Nat → Nat → Int → Option (Cx)
 | 0, _, _ => none
 | k + 1, x3, x4 => if (fge .f64 x3 4598175219545276416) = true then (if fok .sub .f64 x3 4598175219545276416 = true then (spec_l01Phasor.l0 k (fv .sub .f64 x3 4598175219545276416) (wrap64 (x4 + 1))) else (none)) else (if fok .sub .f64 4598175219545276416 x3 = true then ((spec_l01SineWide.f k (fv .sub .f64 4598175219545276416 x3)).bind fun t119 => ((spec_l01SineWide.f k x3).bind fun t120 => (if x4 = 1 then (if fok .sub .f64 0 t120 = true then ((spec_l01Narrow.f (fv .sub .f64 0 t120)).bind fun t121 => ((spec_l01Narrow.f t119).bind fun t122 => (some (⟨t121, t122⟩ : Cx)))) else (none)) else (if x4 = 2 then (if fok .sub .f64 0 t119 = true then ((spec_l01Narrow.f (fv .sub .f64 0 t119)).bind fun t123 => (if fok .sub .f64 0 t120 = true then ((spec_l01Narrow.f (fv .sub .f64 0 t120)).bind fun t124 => (some (⟨t123, t124⟩ : Cx))) else (none))) else (none)) else (if x4 = 3 then ((spec_l01Narrow.f t120).bind fun t125 => (if fok .sub .f64 0 t119 = true then ((spec_l01Narrow.f (fv .sub .f64 0 t119)).bind fun t126 => (some (⟨t125, t126⟩ : Cx))) else (none))) else ((spec_l01Narrow.f t119).bind fun t127 => ((spec_l01Narrow.f t120).bind fun t128 => (some (⟨t127, t128⟩ : Cx))))))))) else (none))
end
def spec_l01Phasor.f (k : Nat) (a0 : Nat) : Option (Cx) := if fok .sub .f64 a0 a0 = true then (if (fne .f64 (fv .sub .f64 a0 a0) 0) = true then ((spec_l01From.f 2143289344).bind fun t117 => ((spec_l01From.f 2143289344).bind fun t118 => (some (⟨t117, t118⟩ : Cx)))) else (if (fge .f64 a0 4841369599423283200) = true then (spec_l01Phasor.j0 k a0 true) else (spec_l01Phasor.j0 k a0 (fle .f64 a0 14064741636278059008)))) else (none)
theorem spec_l01Phasor.mono_l : ∀ k, (∀ y0 y1, LeO (spec_l01Phasor.j0 k y0 y1) (spec_l01Phasor.j0 (k + 1) y0 y1)) ∧ (∀ y0, LeO (spec_l01Phasor.j1 k y0) (spec_l01Phasor.j1 (k + 1) y0)) ∧ (∀ y0 y1, LeO (spec_l01Phasor.l0 k y0 y1) (spec_l01Phasor.l0 (k + 1) y0 y1))
 | 0 => ⟨fun _ _ r h => by simp [spec_l01Phasor.j0] at h, fun _ r h => by simp [spec_l01Phasor.j1] at h, fun _ _ r h => by simp [spec_l01Phasor.l0] at h⟩
 | k + 1 => by
  obtain ⟨ih0, ih1, ih2⟩ := spec_l01Phasor.mono_l k
  refine ⟨?_, ?_, ?_⟩
  ·intro y0 y1
   unfold spec_l01Phasor.j0
   repeat' first
   | (with_reducible exact ih0 _ _)
   | (with_reducible exact ih1 _)
   | (with_reducible exact ih2 _ _)
   | (with_reducible exact spec_l01SineWide.mono _ _)
   | (with_reducible exact LeO.refl _)
   | (with_reducible exact LeO.none _)
   | (with_reducible refine LeO.ite ?_ ?_)
   | (with_reducible refine LeO.bind ?_ (fun _ => ?_))
   | exact ih0 _ _
   | exact ih1 _
   | exact ih2 _ _
   | exact spec_l01SineWide.mono _ _
   | exact LeO.none _
   | refine LeO.ite ?_ ?_
   | refine LeO.bind ?_ (fun _ => ?_)
  ·intro y0
   unfold spec_l01Phasor.j1
   repeat' first
   | (with_reducible exact ih0 _ _)
   | (with_reducible exact ih1 _)
   | (with_reducible exact ih2 _ _)
   | (with_reducible exact spec_l01SineWide.mono _ _)
   | (with_reducible exact LeO.refl _)
   | (with_reducible exact LeO.none _)
   | (with_reducible refine LeO.ite ?_ ?_)
   | (with_reducible refine LeO.bind ?_ (fun _ => ?_))
   | exact ih0 _ _
   | exact ih1 _
   | exact ih2 _ _
   | exact spec_l01SineWide.mono _ _
   | exact LeO.none _
   | refine LeO.ite ?_ ?_
   | refine LeO.bind ?_ (fun _ => ?_)
  ·intro y0 y1
   unfold spec_l01Phasor.l0
   repeat' first
   | (with_reducible exact ih0 _ _)
   | (with_reducible exact ih1 _)
   | (with_reducible exact ih2 _ _)
   | (with_reducible exact spec_l01SineWide.mono _ _)
   | (with_reducible exact LeO.refl _)
   | (with_reducible exact LeO.none _)
   | (with_reducible refine LeO.ite ?_ ?_)
   | (with_reducible refine LeO.bind ?_ (fun _ => ?_))
   | exact ih0 _ _
   | exact ih1 _
   | exact ih2 _ _
   | exact spec_l01SineWide.mono _ _
   | exact LeO.none _
   | refine LeO.ite ?_ ?_
   | refine LeO.bind ?_ (fun _ => ?_)
theorem spec_l01Phasor.mono : ∀ a0 k, LeO (spec_l01Phasor.f k a0) (spec_l01Phasor.f (k + 1) a0) := by
 intro a0 k
 obtain ⟨ih0, ih1, ih2⟩ := spec_l01Phasor.mono_l k
 unfold spec_l01Phasor.f
 repeat' first
   | (with_reducible exact ih0 _ _)
   | (with_reducible exact ih1 _)
   | (with_reducible exact ih2 _ _)
   | (with_reducible exact spec_l01SineWide.mono _ _)
   | (with_reducible exact LeO.refl _)
   | (with_reducible exact LeO.none _)
   | (with_reducible refine LeO.ite ?_ ?_)
   | (with_reducible refine LeO.bind ?_ (fun _ => ?_))
   | exact ih0 _ _
   | exact ih1 _
   | exact ih2 _ _
   | exact spec_l01SineWide.mono _ _
   | exact LeO.none _
   | refine LeO.ite ?_ ?_
   | refine LeO.bind ?_ (fun _ => ?_)
set_option maxHeartbeats 8000000 in
set_option maxRecDepth 100000 in
theorem spec_l01Phasor.calls (k : Nat) (a0 : Nat) (r : Cx) (w : World) (h : spec_l01Phasor.f k a0 = some r) :
  Calls Try.prog 138 #[.float .f64 a0] w fun e w' => e = .returned (.complex .f32 r.re r.im) ∧ Below w.heap.size w w' := by
 have HB := Aside0.mk (Below.refl w.heap.size w)
 have H : (if fok .sub .f64 a0 a0 = true then (if (fne .f64 (fv .sub .f64 a0 a0) 0) = true then ((spec_l01From.f 2143289344).bind fun t117 => ((spec_l01From.f 2143289344).bind fun t118 => (some (⟨t117, t118⟩ : Cx)))) else (if (fge .f64 a0 4841369599423283200) = true then (spec_l01Phasor.j0 k a0 true) else (spec_l01Phasor.j0 k a0 (fle .f64 a0 14064741636278059008)))) else (none)) = some r := h
 clear h
 by_cases c2 : fok .sub .f64 a0 a0 = true
 ·rw [if_pos c2] at H
  have c2b0 := eq_true c2
  have c2b1 : decide (fok .sub .f64 a0 a0 = true) = true := decide_eq_true c2
  clear c2
  by_cases c3 : (fne .f64 (fv .sub .f64 a0 a0) 0) = true
  ·rw [if_pos c3] at H
   have c3b0 : (fne .f64 (fv .sub .f64 a0 a0) 0) = true := c3
   clear c3
   replace H := Option.bind_eq_some_iff.mp H
   obtain ⟨t117, A40, H⟩ := H
   try dsimp only at H
   have A4 := Aside0.mk A40
   clear A40
   replace H := Option.bind_eq_some_iff.mp H
   obtain ⟨t118, A50, H⟩ := H
   try dsimp only at H
   have A5 := Aside0.mk A50
   clear A50
   obtain rfl := Option.some.inj H
   go_enter Try.func138, Try.ntmps138
   go_wp2_with (first | ((with_reducible refine gate_callee (f := 158) rfl ?_); refine gx_ (some 11) Try.func158 #[.int .i64 2143289344] ?_; (with_reducible refine (spec_l01From.calls 2143289344 t117 _ A4.out).mono ?_); rintro e w' ⟨rfl, ⟨nd, rfl⟩⟩; refine ⟨_, rfl, ?_⟩) | ((with_reducible refine gate_callee (f := 158) rfl ?_); refine gx_ (some 12) Try.func158 #[.int .i64 2143289344] ?_; (with_reducible refine (spec_l01From.calls 2143289344 t118 _ A5.out).mono ?_); rintro e w' ⟨rfl, ⟨nd, rfl⟩⟩; refine ⟨_, rfl, ?_⟩))
   go_ret
   exact ⟨re_, tb⟩
  ·rw [if_neg c3] at H
   have c3b0 : (fne .f64 (fv .sub .f64 a0 a0) 0) = false := by simpa using c3
   clear c3
   have HC6 := Aside0.mk H
   clear H
   go_enter Try.func138, Try.ntmps138
   go_upto_region 3 with (fail)
   go_cut [19] (fun v19 wc => ∃ (kq : Nat) (x19_5 : Bool), v19 = .bool x19_5 ∧ Aside0 (spec_l01Phasor.j0 kq a0 x19_5 = some r) ∧ Aside0 (kq ≤ k) ∧ Aside0 (Below w.heap.size w wc))
   case first =>
    have H := HC6.out
    clear HC6
    by_cases c7 : (fge .f64 a0 4841369599423283200) = true
    ·rw [if_pos c7] at H
     have c7b0 : (fge .f64 a0 4841369599423283200) = true := c7
     clear c7
     (first | rw [c7b0] | (simp only [i64_w, i32_w]; rw [c7b0]) | skip)
     have H' := Aside0.mk H
     clear H
     go_wp2
     go_meet
     case rel => exact ⟨_, (true), rs_, H', ⟨by exact om_⟩, ⟨tb⟩⟩
    ·rw [if_neg c7] at H
     have c7b0 : (fge .f64 a0 4841369599423283200) = false := by simpa using c7
     clear c7
     (first | rw [c7b0] | (simp only [i64_w, i32_w]; rw [c7b0]) | skip)
     have H' := Aside0.mk H
     clear H
     go_wp2
     go_meet
     case rel => exact ⟨_, ((fle .f64 a0 14064741636278059008)), rs_, H', ⟨by exact om_⟩, ⟨tb⟩⟩
   case rest =>
    clear HC6
    try clear c1
    try clear c2
    try clear c2b0
    try clear c2b1
    try clear p2
    try clear c3
    try clear c3b0
    try clear c7
    try clear c7b0
    obtain ⟨kq, x19_5, rfl, HA, HJ5, HB⟩ := hcut
    cases kq with
    | zero => exact absurd HA.out (by simp [spec_l01Phasor.j0])
    | succ kj5 =>
     have H := HA.out
     clear HA
     simp only [spec_l01Phasor.j0] at H
     by_cases c8 : x19_5 = true
     ·subst c8
      rw [if_pos rfl] at H; try dsimp only at H
      obtain rfl := Option.some.inj H
      go_wp2
      go_ret
      exact ⟨re_, tb⟩
     ·replace c8 := Bool.eq_false_iff.mpr c8
      subst c8
      have H1 : (if iok .f64 a0 .i64 = true then (if fok .sub .f64 a0 (floatOfInt .f64 (iv .f64 a0 .i64)) = true then (if (flt .f64 (fv .sub .f64 a0 (floatOfInt .f64 (iv .f64 a0 .i64))) 0) = true then (if fok .add .f64 (fv .sub .f64 a0 (floatOfInt .f64 (iv .f64 a0 .i64))) 4607182418800017408 = true then (spec_l01Phasor.j1 kj5 (fv .add .f64 (fv .sub .f64 a0 (floatOfInt .f64 (iv .f64 a0 .i64))) 4607182418800017408)) else (none)) else (spec_l01Phasor.j1 kj5 (fv .sub .f64 a0 (floatOfInt .f64 (iv .f64 a0 .i64))))) else (none)) else (none)) = some r := by rw [if_neg (show ¬ (false = true) by decide)] at H; exact H
      clear H
      have H := H1
      clear H1
      by_cases c9 : iok .f64 a0 .i64 = true
      ·rw [if_pos c9] at H
       have c9b0 := eq_true c9
       have c9b1 : decide (iok .f64 a0 .i64 = true) = true := decide_eq_true c9
       clear c9
       by_cases c10 : fok .sub .f64 a0 (floatOfInt .f64 (iv .f64 a0 .i64)) = true
       ·rw [if_pos c10] at H
        have c10b0 := eq_true c10
        have c10b1 : decide (fok .sub .f64 a0 (floatOfInt .f64 (iv .f64 a0 .i64)) = true) = true := decide_eq_true c10
        clear c10
        have HC11 := Aside0.mk H
        clear H
        go_upto_if 26 with (fail)
        go_cut [3] (fun v3 wc => ∃ (kq : Nat) (x3_10 : Nat), v3 = .float .f64 x3_10 ∧ Aside0 (spec_l01Phasor.j1 kq x3_10 = some r) ∧ Aside0 (kq ≤ kj5) ∧ Aside0 (Below w.heap.size w wc))
        case first =>
         have H := HC11.out
         clear HC11
         by_cases c12 : (flt .f64 (fv .sub .f64 a0 (floatOfInt .f64 (iv .f64 a0 .i64))) 0) = true
         ·rw [if_pos c12] at H
          have c12b0 : (flt .f64 (fv .sub .f64 a0 (floatOfInt .f64 (iv .f64 a0 .i64))) 0) = true := c12
          clear c12
          (first | rw [c12b0] | (simp only [i64_w, i32_w]; rw [c12b0]) | skip)
          by_cases c13 : fok .add .f64 (fv .sub .f64 a0 (floatOfInt .f64 (iv .f64 a0 .i64))) 4607182418800017408 = true
          ·rw [if_pos c13] at H
           have c13b0 := eq_true c13
           have c13b1 : decide (fok .add .f64 (fv .sub .f64 a0 (floatOfInt .f64 (iv .f64 a0 .i64))) 4607182418800017408 = true) = true := decide_eq_true c13
           clear c13
           have H' := Aside0.mk H
           clear H
           go_wp2
           go_meet
           case rel => exact ⟨_, (fv .add .f64 (fv .sub .f64 a0 (floatOfInt .f64 (iv .f64 a0 .i64))) 4607182418800017408), rs_, H', ⟨by have := HJ5.out; exact om_⟩, ⟨tb⟩⟩
          ·rw [if_neg c13] at H
           exact absurd H (by simp)
         ·rw [if_neg c12] at H
          have c12b0 : (flt .f64 (fv .sub .f64 a0 (floatOfInt .f64 (iv .f64 a0 .i64))) 0) = false := by simpa using c12
          clear c12
          (first | rw [c12b0] | (simp only [i64_w, i32_w]; rw [c12b0]) | skip)
          have H' := Aside0.mk H
          clear H
          go_wp2
          go_meet
          case rel => exact ⟨_, (fv .sub .f64 a0 (floatOfInt .f64 (iv .f64 a0 .i64))), rs_, H', ⟨by have := HJ5.out; exact om_⟩, ⟨tb⟩⟩
        case rest =>
         clear HC11
         try clear c1
         try clear c2
         try clear c2b0
         try clear c2b1
         try clear p2
         try clear c3
         try clear c3b0
         try clear c7
         try clear c7b0
         try clear c8
         try clear c9
         try clear c9b0
         try clear c9b1
         try clear c10
         try clear c10b0
         try clear c10b1
         try clear c12
         try clear c12b0
         try clear c13
         try clear c13b0
         try clear c13b1
         try clear p2
         obtain ⟨kq, x3_10, rfl, HA, HJ10, HB⟩ := hcut
         cases kq with
         | zero => exact absurd HA.out (by simp [spec_l01Phasor.j1])
         | succ kj10 =>
          have H := HA.out
          clear HA
          simp only [spec_l01Phasor.j1] at H
          have H' := Aside0.mk H
          clear H
          go_wp2
          go_loopg [3, 4] kj10 (fun kq v3 v4 w' => ∃ (x3_3 : Nat) (x4_3 : Int), v3 = .float .f64 x3_3 ∧ v4 = .int .i64 x4_3 ∧ Aside0 (spec_l01Phasor.l0 kq x3_3 x4_3 = some r) ∧ Aside0 (kq ≤ kj10) ∧ Aside0 (Below w.heap.size w w'))
          case atStart => exact ⟨(x3_10), (0), rs_, rs_, H', ⟨Nat.le_refl _⟩, ⟨tb⟩⟩
          case round =>
           clear H'
           try clear c1
           try clear c2
           try clear c2b0
           try clear c2b1
           try clear p2
           try clear c3
           try clear c3b0
           try clear c7
           try clear c7b0
           try clear c8
           try clear c9
           try clear c9b0
           try clear c9b1
           try clear c10
           try clear c10b0
           try clear c10b1
           try clear c12
           try clear c12b0
           try clear c13
           try clear c13b0
           try clear c13b1
           try clear p2
           obtain ⟨x3_3, x4_3, rfl, rfl, HA, HK3, HB⟩ := hrel
           cases gk with
           | zero => exact absurd HA.out (by simp [spec_l01Phasor.l0])
           | succ k3 =>
            have H := HA.out
            clear HA
            simp only [spec_l01Phasor.l0] at H
            by_cases c14 : (fge .f64 x3_3 4598175219545276416) = true
            ·rw [if_pos c14] at H
             have c14b0 : (fge .f64 x3_3 4598175219545276416) = true := c14
             clear c14
             by_cases c15 : fok .sub .f64 x3_3 4598175219545276416 = true
             ·rw [if_pos c15] at H
              have c15b0 := eq_true c15
              have c15b1 : decide (fok .sub .f64 x3_3 4598175219545276416 = true) = true := decide_eq_true c15
              clear c15
              have H' := Aside0.mk H
              clear H
              go_wp2
              go_roundg k3
              case measure => have := HJ5.out; have := HJ10.out; have := HK3.out; omega
              case rel => exact ⟨(fv .sub .f64 x3_3 4598175219545276416), (wrap64 (x4_3 + 1)), rs_, rs_, H', ⟨by have := HJ5.out; have := HJ10.out; have := HK3.out; omega⟩, ⟨tb⟩⟩
             ·rw [if_neg c15] at H
              exact absurd H (by simp)
            ·rw [if_neg c14] at H
             have c14b0 : (fge .f64 x3_3 4598175219545276416) = false := by simpa using c14
             clear c14
             by_cases c16 : fok .sub .f64 4598175219545276416 x3_3 = true
             ·rw [if_pos c16] at H
              have c16b0 := eq_true c16
              have c16b1 : decide (fok .sub .f64 4598175219545276416 x3_3 = true) = true := decide_eq_true c16
              clear c16
              replace H := Option.bind_eq_some_iff.mp H
              obtain ⟨t119, A170, H⟩ := H
              try dsimp only at H
              have A17 := Aside0.mk A170
              clear A170
              replace H := Option.bind_eq_some_iff.mp H
              obtain ⟨t120, A180, H⟩ := H
              try dsimp only at H
              have A18 := Aside0.mk A180
              clear A180
              by_cases c19 : x4_3 = 1
              ·rw [if_pos c19] at H
               have c19b0 : (x4_3 == 1) = true := beq_iff_eq.mpr c19
               have c19b1 : (x4_3 != 1) = false := bne_eq_false_iff_eq.mpr c19
               clear c19
               by_cases c20 : fok .sub .f64 0 t120 = true
               ·rw [if_pos c20] at H
                have c20b0 := eq_true c20
                have c20b1 : decide (fok .sub .f64 0 t120 = true) = true := decide_eq_true c20
                clear c20
                replace H := Option.bind_eq_some_iff.mp H
                obtain ⟨t121, A210, H⟩ := H
                try dsimp only at H
                have A21 := Aside0.mk A210
                clear A210
                replace H := Option.bind_eq_some_iff.mp H
                obtain ⟨t122, A220, H⟩ := H
                try dsimp only at H
                have A22 := Aside0.mk A220
                clear A220
                obtain rfl := Option.some.inj H
                go_wp2_with (first | ((with_reducible refine gate_callee (f := 159) rfl ?_); refine gx_ (some 37) Try.func159 #[.float .f64 (fv .sub .f64 4598175219545276416 x3_3)] ?_; (with_reducible refine (spec_l01SineWide.calls k3 (fv .sub .f64 4598175219545276416 x3_3) t119 _ A17.out).mono ?_); rintro e w' ⟨rfl, ⟨nd, rfl⟩⟩; refine ⟨_, rfl, ?_⟩) | ((with_reducible refine gate_callee (f := 159) rfl ?_); refine gx_ (some 39) Try.func159 #[.float .f64 x3_3] ?_; (with_reducible refine (spec_l01SineWide.calls k3 x3_3 t120 _ A18.out).mono ?_); rintro e w' ⟨rfl, ⟨nd, rfl⟩⟩; refine ⟨_, rfl, ?_⟩) | ((with_reducible refine gate_callee (f := 155) rfl ?_); refine gx_ (some 45) Try.func155 #[.float .f64 (fv .sub .f64 0 t120)] ?_; (with_reducible refine (spec_l01Narrow.calls (fv .sub .f64 0 t120) t121 _ A21.out).mono ?_); rintro e w' ⟨rfl, ⟨nd, rfl⟩⟩; refine ⟨_, rfl, ?_⟩) | ((with_reducible refine gate_callee (f := 155) rfl ?_); refine gx_ (some 47) Try.func155 #[.float .f64 t119] ?_; (with_reducible refine (spec_l01Narrow.calls t119 t122 _ A22.out).mono ?_); rintro e w' ⟨rfl, ⟨nd, rfl⟩⟩; refine ⟨_, rfl, ?_⟩))
                go_ret
                exact ⟨re_, tb⟩
               ·rw [if_neg c20] at H
                exact absurd H (by simp)
              ·rw [if_neg c19] at H
               have c19b0 : (x4_3 == 1) = false := beq_eq_false_iff_ne.mpr c19
               have c19b1 : (x4_3 != 1) = true := bne_iff_ne.mpr c19
               by_cases c23 : x4_3 = 2
               ·rw [if_pos c23] at H
                have c23b0 : (x4_3 == 2) = true := beq_iff_eq.mpr c23
                have c23b1 : (x4_3 != 2) = false := bne_eq_false_iff_eq.mpr c23
                clear c23
                by_cases c24 : fok .sub .f64 0 t119 = true
                ·rw [if_pos c24] at H
                 have c24b0 := eq_true c24
                 have c24b1 : decide (fok .sub .f64 0 t119 = true) = true := decide_eq_true c24
                 clear c24
                 replace H := Option.bind_eq_some_iff.mp H
                 obtain ⟨t123, A250, H⟩ := H
                 try dsimp only at H
                 have A25 := Aside0.mk A250
                 clear A250
                 by_cases c26 : fok .sub .f64 0 t120 = true
                 ·rw [if_pos c26] at H
                  have c26b0 := eq_true c26
                  have c26b1 : decide (fok .sub .f64 0 t120 = true) = true := decide_eq_true c26
                  clear c26
                  replace H := Option.bind_eq_some_iff.mp H
                  obtain ⟨t124, A270, H⟩ := H
                  try dsimp only at H
                  have A27 := Aside0.mk A270
                  clear A270
                  obtain rfl := Option.some.inj H
                  go_wp2_with (first | ((with_reducible refine gate_callee (f := 159) rfl ?_); refine gx_ (some 37) Try.func159 #[.float .f64 (fv .sub .f64 4598175219545276416 x3_3)] ?_; (with_reducible refine (spec_l01SineWide.calls k3 (fv .sub .f64 4598175219545276416 x3_3) t119 _ A17.out).mono ?_); rintro e w' ⟨rfl, ⟨nd, rfl⟩⟩; refine ⟨_, rfl, ?_⟩) | ((with_reducible refine gate_callee (f := 159) rfl ?_); refine gx_ (some 39) Try.func159 #[.float .f64 x3_3] ?_; (with_reducible refine (spec_l01SineWide.calls k3 x3_3 t120 _ A18.out).mono ?_); rintro e w' ⟨rfl, ⟨nd, rfl⟩⟩; refine ⟨_, rfl, ?_⟩) | ((with_reducible refine gate_callee (f := 155) rfl ?_); refine gx_ (some 53) Try.func155 #[.float .f64 (fv .sub .f64 0 t119)] ?_; (with_reducible refine (spec_l01Narrow.calls (fv .sub .f64 0 t119) t123 _ A25.out).mono ?_); rintro e w' ⟨rfl, ⟨nd, rfl⟩⟩; refine ⟨_, rfl, ?_⟩) | ((with_reducible refine gate_callee (f := 155) rfl ?_); refine gx_ (some 56) Try.func155 #[.float .f64 (fv .sub .f64 0 t120)] ?_; (with_reducible refine (spec_l01Narrow.calls (fv .sub .f64 0 t120) t124 _ A27.out).mono ?_); rintro e w' ⟨rfl, ⟨nd, rfl⟩⟩; refine ⟨_, rfl, ?_⟩))
                  go_ret
                  exact ⟨re_, tb⟩
                 ·rw [if_neg c26] at H
                  exact absurd H (by simp)
                ·rw [if_neg c24] at H
                 exact absurd H (by simp)
               ·rw [if_neg c23] at H
                have c23b0 : (x4_3 == 2) = false := beq_eq_false_iff_ne.mpr c23
                have c23b1 : (x4_3 != 2) = true := bne_iff_ne.mpr c23
                by_cases c28 : x4_3 = 3
                ·rw [if_pos c28] at H
                 have c28b0 : (x4_3 == 3) = true := beq_iff_eq.mpr c28
                 have c28b1 : (x4_3 != 3) = false := bne_eq_false_iff_eq.mpr c28
                 clear c28
                 replace H := Option.bind_eq_some_iff.mp H
                 obtain ⟨t125, A290, H⟩ := H
                 try dsimp only at H
                 have A29 := Aside0.mk A290
                 clear A290
                 by_cases c30 : fok .sub .f64 0 t119 = true
                 ·rw [if_pos c30] at H
                  have c30b0 := eq_true c30
                  have c30b1 : decide (fok .sub .f64 0 t119 = true) = true := decide_eq_true c30
                  clear c30
                  replace H := Option.bind_eq_some_iff.mp H
                  obtain ⟨t126, A310, H⟩ := H
                  try dsimp only at H
                  have A31 := Aside0.mk A310
                  clear A310
                  obtain rfl := Option.some.inj H
                  go_wp2_with (first | ((with_reducible refine gate_callee (f := 159) rfl ?_); refine gx_ (some 37) Try.func159 #[.float .f64 (fv .sub .f64 4598175219545276416 x3_3)] ?_; (with_reducible refine (spec_l01SineWide.calls k3 (fv .sub .f64 4598175219545276416 x3_3) t119 _ A17.out).mono ?_); rintro e w' ⟨rfl, ⟨nd, rfl⟩⟩; refine ⟨_, rfl, ?_⟩) | ((with_reducible refine gate_callee (f := 159) rfl ?_); refine gx_ (some 39) Try.func159 #[.float .f64 x3_3] ?_; (with_reducible refine (spec_l01SineWide.calls k3 x3_3 t120 _ A18.out).mono ?_); rintro e w' ⟨rfl, ⟨nd, rfl⟩⟩; refine ⟨_, rfl, ?_⟩) | ((with_reducible refine gate_callee (f := 155) rfl ?_); refine gx_ (some 61) Try.func155 #[.float .f64 t120] ?_; (with_reducible refine (spec_l01Narrow.calls t120 t125 _ A29.out).mono ?_); rintro e w' ⟨rfl, ⟨nd, rfl⟩⟩; refine ⟨_, rfl, ?_⟩) | ((with_reducible refine gate_callee (f := 155) rfl ?_); refine gx_ (some 64) Try.func155 #[.float .f64 (fv .sub .f64 0 t119)] ?_; (with_reducible refine (spec_l01Narrow.calls (fv .sub .f64 0 t119) t126 _ A31.out).mono ?_); rintro e w' ⟨rfl, ⟨nd, rfl⟩⟩; refine ⟨_, rfl, ?_⟩))
                  go_ret
                  exact ⟨re_, tb⟩
                 ·rw [if_neg c30] at H
                  exact absurd H (by simp)
                ·rw [if_neg c28] at H
                 have c28b0 : (x4_3 == 3) = false := beq_eq_false_iff_ne.mpr c28
                 have c28b1 : (x4_3 != 3) = true := bne_iff_ne.mpr c28
                 replace H := Option.bind_eq_some_iff.mp H
                 obtain ⟨t127, A320, H⟩ := H
                 try dsimp only at H
                 have A32 := Aside0.mk A320
                 clear A320
                 replace H := Option.bind_eq_some_iff.mp H
                 obtain ⟨t128, A330, H⟩ := H
                 try dsimp only at H
                 have A33 := Aside0.mk A330
                 clear A330
                 obtain rfl := Option.some.inj H
                 go_wp2_with (first | ((with_reducible refine gate_callee (f := 159) rfl ?_); refine gx_ (some 37) Try.func159 #[.float .f64 (fv .sub .f64 4598175219545276416 x3_3)] ?_; (with_reducible refine (spec_l01SineWide.calls k3 (fv .sub .f64 4598175219545276416 x3_3) t119 _ A17.out).mono ?_); rintro e w' ⟨rfl, ⟨nd, rfl⟩⟩; refine ⟨_, rfl, ?_⟩) | ((with_reducible refine gate_callee (f := 159) rfl ?_); refine gx_ (some 39) Try.func159 #[.float .f64 x3_3] ?_; (with_reducible refine (spec_l01SineWide.calls k3 x3_3 t120 _ A18.out).mono ?_); rintro e w' ⟨rfl, ⟨nd, rfl⟩⟩; refine ⟨_, rfl, ?_⟩) | ((with_reducible refine gate_callee (f := 155) rfl ?_); refine gx_ (some 67) Try.func155 #[.float .f64 t119] ?_; (with_reducible refine (spec_l01Narrow.calls t119 t127 _ A32.out).mono ?_); rintro e w' ⟨rfl, ⟨nd, rfl⟩⟩; refine ⟨_, rfl, ?_⟩) | ((with_reducible refine gate_callee (f := 155) rfl ?_); refine gx_ (some 69) Try.func155 #[.float .f64 t120] ?_; (with_reducible refine (spec_l01Narrow.calls t120 t128 _ A33.out).mono ?_); rintro e w' ⟨rfl, ⟨nd, rfl⟩⟩; refine ⟨_, rfl, ?_⟩))
                 go_ret
                 exact ⟨re_, tb⟩
             ·rw [if_neg c16] at H
              exact absurd H (by simp)
       ·rw [if_neg c10] at H
        exact absurd H (by simp)
      ·rw [if_neg c9] at H
       exact absurd H (by simp)
 ·rw [if_neg c2] at H
  exact absurd H (by simp)

end Go.Proofs.Ytcgpomicgbmdlaa.PFnBanks
