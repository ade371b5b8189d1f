-- Words and walks of the print, as far as this claim uses them (laid by wip/mkclaim.py of this session). Lean checks it.
import Derived.Test.YtcgpomicgbmdlaaFl
import Derived.Laws.CopyOwn
import Derived.Deep.RegionLaw
import Derived.Test.YtcgpomicgbmdlaaPFnBanksm0
import Derived.Test.YtcgpomicgbmdlaaPFnBanksm5
import Derived.Deep.RegionWith
import Derived.Deep.DeepMust
import Derived.Outline
import Derived.Test.YtcgpomicgbmdlaaPFnBanksm2
import Derived.Test.YtcgpomicgbmdlaaPFnBanksm3
import Derived.Test.YtcgpomicgbmdlaaPFnBanksm4
namespace Go.Proofs.Ytcgpomicgbmdlaa.PFnBanks
open Go.RowKit Go.Proofs.YtcgpomicgbmdlaaW.PrintWords Go.Proofs.YtcgpomicgbmdlaaW.PrintLast Go.Proofs.YtcgpomicgbmdlaaW.PrintMore
attribute [local go_sem] max2_int min2_int max_two min_two max_three min_three max_four min_four   -- for this text's walks alone
set_option linter.unusedVariables false
set_option linter.unusedSimpArgs false

/-! ### slices_Repeat_impl_Phases: function 141 -/
-- MANUAL 0 1
-- IMPORT Derived.Laws.CopyOwn
-- IMPORT Derived.Deep.RegionLaw
def cells39 (x : S39) : List Value := [.complex .f32 x.f0.re x.f0.im, .complex .f32 x.f1.re x.f1.im, .complex .f32 x.f2.re x.f2.im]
def rowc39 (n : Nat) (x : S39) : List Value := (List.replicate n (cells39 x)).flatten
theorem rowc39_len (n : Nat) (x : S39) : (rowc39 n x).length = n * 3 := by
 unfold rowc39
 induction n with
 | zero => rfl
 | succ n ih => rw [List.replicate_succ, List.flatten_cons, List.length_append, ih]; show 3 + n * 3 = _; omega
theorem rowc39_add (m n : Nat) (x : S39) : rowc39 (m + n) x = rowc39 m x ++ rowc39 n x := by
 unfold rowc39
 rw [← List.flatten_append, List.replicate_append_replicate]
theorem rowc39_take {m n : Nat} (h : m ≤ n) (x : S39) : (rowc39 n x).take (m * 3) = rowc39 m x := by
 obtain ⟨k, rfl⟩ : ∃ k, n = m + k := ⟨n - m, by omega⟩
 rw [rowc39_add, List.take_append_of_le_length (by rw [rowc39_len]; exact Nat.le_refl _), List.take_of_length_le (by rw [rowc39_len]; exact Nat.le_refl _)]
theorem rowc39_drop (m k : Nat) (x : S39) : ((rowc39 (m + k) x).drop (m * 3)) = rowc39 k x := by
 rw [rowc39_add, List.drop_append_of_le_length (by rw [rowc39_len]; exact Nat.le_refl _), List.drop_of_length_le (by rw [rowc39_len]; exact Nat.le_refl _), List.nil_append]
theorem rowc39_one (n : Nat) (x : S39) : ∀ v ∈ rowc39 n x, v.oneCell' = true := by
 intro v hv
 unfold rowc39 at hv
 rw [List.mem_flatten] at hv
 obtain ⟨l, hl, hv⟩ := hv
 rw [List.mem_replicate] at hl
 obtain ⟨_, rfl⟩ := hl
 simp only [cells39, List.mem_cons, List.not_mem_nil, or_false] at hv
 rcases hv with rfl | rfl | rfl <;> rfl
/-- The row, m elements of n filled. -/
def RpSt (W : World) (b n m : Nat) (x : S39) : Prop := ∃ cur : List Value, W.heap[b]? = some (.cells cur.toArray 39 (0, 0)) ∧ cur.length = n * 3 ∧ cur.take (m * 3) = rowc39 m x
theorem RpSt.full {W : World} {b n base : Nat} {x : S39} (h : RpSt W b n n x) (hb : base ≤ b) (hn : n ≤ 1000) : Kd.R k39 39 W base (fun _ => True) (.slice (some ⟨b, 0, none⟩) n n) (List.replicate n x) := by
 obtain ⟨cur, h1, h2, h3⟩ := h
 rw [List.take_of_length_le (by omega)] at h3
 subst h3
 refine ⟨fun _ _ => trivial, rowc39 n x, ?_, ?_⟩
 ·rw [List.length_replicate]
  refine ⟨by rw [rowc39_len]; rfl, .inr ⟨b, n, (rowc39 n x).toArray, rfl, hb, h1, Nat.le_refl _, by unfold maxLen; omega, by simp [rowc39_len, k39, Kd.iso, Kd.pair, Kd.c64, Kd.scalar], ?_⟩⟩
  simp only [List.toList_toArray]
  exact rowc39_take (Nat.le_refl _) x
 ·refine ⟨by rw [rowc39_len, List.length_replicate]; rfl, fun j p hp => ?_⟩
  rw [List.getElem?_replicate] at hp
  split at hp
  ·rename_i hj
   obtain rfl := Option.some.inj hp
   obtain ⟨k, rfl⟩ : ∃ k, n = j + (1 + k) := ⟨n - j - 1, by omega⟩
   have e : ((rowc39 (j + (1 + k)) x).drop (j * k39.sz)).take k39.sz = cells39 x := by
    show ((rowc39 (j + (1 + k)) x).drop (j * 3)).take 3 = _
    rw [rowc39_drop, show (3 : Nat) = 1 * 3 from rfl, rowc39_take (by omega)]
    rfl
   rw [e]
   exact k39_mkM _ _ _ x
  ·cases hp
theorem rp_splice {cur : List Value} {n m k : Nat} {x : S39} (h1 : cur.length = n * 3) (h2 : cur.take (m * 3) = rowc39 m x) (hk : m + k ≤ n) :
  (splice cur (m * 3) (rowc39 k x)).length = n * 3 ∧ (splice cur (m * 3) (rowc39 k x)).take ((m + k) * 3) = rowc39 (m + k) x := by
 refine ⟨by rw [length_splice _ _ _ (by rw [rowc39_len]; omega)]; exact h1, ?_⟩
 unfold splice
 rw [h2, rowc39_add, ← List.append_assoc, List.take_append_of_le_length (by simp [rowc39_len]; omega), List.take_of_length_le (by simp [rowc39_len]; omega)]
theorem rowc39_get (n : Nat) (x : S39) (j : Nat) (hj : j < n * 3) : (rowc39 n x)[j]? = (cells39 x)[j % 3]? := by
 induction n generalizing j with
 | zero => omega
 | succ n ih =>
  rw [Nat.add_comm, rowc39_add]
  by_cases c : j < 3
  ·rw [List.getElem?_append_left (by rw [rowc39_len]; omega), Nat.mod_eq_of_lt c]
   rfl
  ·rw [List.getElem?_append_right (by rw [rowc39_len]; omega), rowc39_len, ih (j - 1 * 3) (by omega)]
   congr 1
   omega
/-- A row's cells, read through a cut of it. -/
theorem RpSt.reads {W : World} {b n m : Nat} {x : S39} (h : RpSt W b n m x) (k : Nat) (hk : k ≤ m) (hm : m ≤ n) : ∀ j v, (rowc39 k x)[j]? = some v → W.cell? ((⟨b, 0, none⟩ : Addr).add j) = some v := by
 obtain ⟨cur, h1, h2, h3⟩ := h
 intro j v hv
 have hj : j < k * 3 := by have := (List.getElem?_eq_some_iff.mp hv).1; rwa [rowc39_len] at this
 have e : cur[j]? = some v := by
  have : (cur.take (m * 3))[j]? = some v := by rw [h3, rowc39_get m x j (by omega), ← rowc39_get k x j hj]; exact hv
  rwa [List.getElem?_take_of_lt (by omega)] at this
 have h4 := blk_cell h1 j
 have e2 : (⟨b, 0, none⟩ : Addr).add j = ⟨b, j, none⟩ := by unfold Addr.add; split <;> simp_all
 rw [e2, h4]
 simpa using e
theorem copyS_run {P : Program} (w : World) (dT sT ty elem : TypeId) (g o dLen dCap : Nat) (a : Addr) (sLen sCap s m : Nat) (cur : Array Value) (t : TypeId) (cs : List Value)
  (hu : P.underlying dT = some (.slice elem)) (hs : (P.info? elem).map (·.size) = some s)
  (hg : w.heap[g]? = some (.cells cur t (0, 0))) (hm : Nat.min sLen dLen = m) (hn : cs.length = m * s)
  (hsrc : ∀ j v, cs[j]? = some v → w.cell? (a.add j) = some v) (hfit : o + cs.length ≤ cur.size) (h1 : ∀ v ∈ cs, v.oneCell' = true) :
  (Builtin.copy_ #[dT, sT] ty #[.slice (some ⟨g, o, none⟩) dLen dCap, .slice (some a) sLen sCap]).run P w =
   .ok (goInt m) (w.setRow g (cur.toList.take o ++ cs ++ cur.toList.drop (o + cs.length)).toArray) := by
 have hl := run_loadCells_list (P := P) w a cs hsrc
 have hst := run_storeCells_at P g o t cs 0 cur w hg (by simpa using hfit) h1
 cases hq : P.info? elem with
 | none => simp [hq] at hs
 | some i =>
  have hi : i.size = s := by simpa [hq] using hs
  rw [hn] at hl
  simp [Builtin.copy_, run_underlying hu, Builtin.lenOf, Builtin.firstCells, sizeOf, typeInfo, hq, hi, hm, hl, hst]

theorem mk39_ {P : Program} {ops : Array Oper} {Q : Exit → Act → World → Prop} {rest : List Oper} {o : Oper} {a : Act} {W : World} {N : Tmp} (hgd : o.guard = none) (hd : o.dst = some N) (t : TypeId) (x y : Operand) (ho : o.op = .makeSlice t x y) (n : Nat) (hx : a.eval x = .int .i64 n) (hy : a.eval y = .int .i64 n)
  (ht : P.underlying t = some (.slice 39)) (z : Value) (hinfo : (P.info? 39).map (fun i => (i.zero, i.size, i.bytes)) = some (some z, 3, 24)) (hn : n ≤ 1000)
  (h : ∀ g w1, W.heap.size = g → Aside0 (∀ x, RpSt w1 g n 0 x) → Below W.heap.size W w1 → wpList P ops Q rest (a.put o.dst (.slice (some ⟨g, 0, none⟩) n n)) w1) : wpList P ops Q (o :: rest) a W := by
 obtain ⟨i0, hi, hzz⟩ := Option.map_eq_some_iff.1 hinfo
 simp only [Prod.mk.injEq] at hzz
 obtain ⟨hz0, hz1, hz2⟩ := hzz
 have hr := run_make (P := P) W t 39 i0 z ht hi hz0 .i64 .i64 (n : Int) (n : Int) (by omega) (by omega) (by rw [hz2]; omega) (by omega)
 simp only [Int.toNat_natCast] at hr
 rw [hz1] at hr
 refine Kd.event_run hgd (v := .slice (some ⟨W.heap.size, 0, none⟩) n n) (w1 := W.alloc (.cells (madeCells z.cells (n * 3)) 39)) ?_ (h _ _ rfl ⟨fun x => ⟨(madeCells z.cells (n * 3)).toList, by simpa using blk_new W _, by simp [size_madeCells], by simp [rowc39]⟩⟩ (below_alloc (Below.refl _ _) _))
 simp [execOp, ho, hx, hy, hr]
theorem setRow_eq_below {B g : Nat} {w0 w : World} (hb : Below B w0 w) (hBg : B ≤ g) (cs : Array Value) : Below B w0 (w.setRow g cs) := below_setRow hb hBg cs
/-- A copy into the row, in a plain region. -/
theorem cp39_ {P : Program} {ops : Array Oper} {Q : Exit → Act → World → Prop} {rest : List Oper} {o : Oper} {a : Act} {W : World} (hgd : o.guard = none) (d s : Operand) (T : TypeId)
  (ho : o.op = .call { callee := .builtin .copy, args := #[d, s], argTypes := #[T, T] }) (hu : P.underlying T = some (.slice 39)) (hsz : (P.info? 39).map (·.size) = some 3)
  (b n m k : Nat) (x : S39) (dLen dCap : Nat) (ad : Addr) (sLen sCap : Nat) (hd : a.eval d = .slice (some ⟨b, m * 3, none⟩) dLen dCap) (hs : a.eval s = .slice (some ad) sLen sCap) (hk : Nat.min sLen dLen = k)
  (hrow : RpSt W b n m x) (hsrc : ∀ j v, (rowc39 k x)[j]? = some v → W.cell? (ad.add j) = some v) (hfit : m + k ≤ n) (B : Nat) (w0 : World) (hb : Below B w0 W) (hB : B ≤ b)
  (h : ∀ w1, Aside0 (RpSt w1 b n (m + k) x) → Aside0 (Below B w0 w1) → wpList P ops Q rest (a.put o.dst (goInt k)) w1) : wpList P ops Q (o :: rest) a W := by
 obtain ⟨cur, h1, h2, h3⟩ := hrow
 have hrun := copyS_run (P := P) W T T o.type 39 b (m * 3) dLen dCap ad sLen sCap 3 k cur.toArray 39 (rowc39 k x) hu hsz h1 hk (rowc39_len k x) hsrc (by rw [rowc39_len]; simp; omega) (rowc39_one k x)
 obtain ⟨e1, e2⟩ := rp_splice (k := k) h2 h3 hfit
 refine Kd.event_run hgd (v := goInt k) (w1 := W.setRow b (cur.toArray.toList.take (m * 3) ++ rowc39 k x ++ cur.toArray.toList.drop (m * 3 + (rowc39 k x).length)).toArray) ?_ (h _ ⟨⟨splice cur (m * 3) (rowc39 k x), ?_, e1, e2⟩⟩ ⟨below_setRow hb hB _⟩)
 ·simp [execOp, ho, resolve, invoke, builtin, hd, hs, hrun]
 ·have := setRow_heap W b cur.toArray (cur.toArray.toList.take (m * 3) ++ rowc39 k x ++ cur.toArray.toList.drop (m * 3 + (rowc39 k x).length)).toArray 39 (0, 0) h1
  simpa [splice] using this
/-- The same as one step of a region that draws. -/
theorem cq39_ {P : Program} {ops : Array Oper} {Q : Exit → Act → World → Prop} {K : Act → World → Prop} {E : Prop} {o : Oper} {a : Act} {W : World} (hgd : o.guard = none) (d s : Operand) (T : TypeId)
  (ho : o.op = .call { callee := .builtin .copy, args := #[d, s], argTypes := #[T, T] }) (hu : P.underlying T = some (.slice 39)) (hsz : (P.info? 39).map (·.size) = some 3)
  (b n m k : Nat) (x : S39) (dLen dCap : Nat) (ad : Addr) (sLen sCap : Nat) (hd : a.eval d = .slice (some ⟨b, m * 3, none⟩) dLen dCap) (hs : a.eval s = .slice (some ad) sLen sCap) (hk : Nat.min sLen dLen = k)
  (hrow : RpSt W b n m x) (hsrc : ∀ j v, (rowc39 k x)[j]? = some v → W.cell? (ad.add j) = some v) (hfit : m + k ≤ n) (B : Nat) (w0 : World) (hb : Below B w0 W) (hB : B ≤ b)
  (h : ∀ w1, Aside0 (RpSt w1 b n (m + k) x) → Aside0 (Below B w0 w1) → K (a.put o.dst (goInt k)) w1) : if Region.wanted o (yielded ops a.tmps) = true then Oper.wp P o a W K Q else E := by
 obtain ⟨cur, h1, h2, h3⟩ := hrow
 have hrun := copyS_run (P := P) W T T o.type 39 b (m * 3) dLen dCap ad sLen sCap 3 k cur.toArray 39 (rowc39 k x) hu hsz h1 hk (rowc39_len k x) hsrc (by rw [rowc39_len]; simp; omega) (rowc39_one k x)
 obtain ⟨e1, e2⟩ := rp_splice (k := k) h2 h3 hfit
 have hw : Region.wanted o (yielded ops a.tmps) = true := by simp [Region.wanted, hgd]
 rw [if_pos hw]
 unfold Oper.wp
 simp [execOp, ho, resolve, invoke, builtin, hd, hs, hrun, Result.andThen]
 refine h _ ⟨⟨splice cur (m * 3) (rowc39 k x), ?_, e1, e2⟩⟩ ⟨below_setRow hb hB _⟩
 have := setRow_heap W b cur.toArray (cur.take (m * 3) ++ (rowc39 k x ++ cur.drop (m * 3 + (rowc39 k x).length))).toArray 39 (0, 0) h1
 simpa [splice] using this
/-- n of one. -/
def slices_Repeat_impl_Phases.f (l0 : List (S39)) (a1 : Int) : Option (List (S39)) :=
 match l0 with
 | [x] => if 1 ≤ a1 ∧ a1 ≤ 16 then some (List.replicate a1.toNat x) else none
 | _ => none
theorem rp_mul (n : Nat) (h : n ≤ 16) : bits_Mul.f 1 (n : Int) = some (0, (n : Int)) := by
 have : ∀ m : Fin 17, bits_Mul.f 1 ((m.val : Nat) : Int) = some (0, ((m.val : Nat) : Int)) := by decide +kernel
 exact this ⟨n, by omega⟩
set_option maxHeartbeats 8000000 in
set_option maxRecDepth 100000 in
theorem slices_Repeat_impl_Phases.calls (A0 : Option Addr) (c0 : Nat) (l0 : List (S39)) (a1 : Int) (r : List (S39)) (w : World) (hr0 : Kd.C k39 w A0 l0.length l0) (hc0 : l0.length ≤ c0) (h : slices_Repeat_impl_Phases.f l0 a1 = some r) :
  Calls Try.prog 141 #[.slice A0 l0.length c0, .int .i64 a1] w fun e w' => ∃ v0_ : Value, e = .returned (v0_) ∧ Kd.R k39 39 w' w.heap.size (fun _ => True) v0_ r ∧ Below w.heap.size w w' := by
 unfold slices_Repeat_impl_Phases.f at h
 split at h
 ·rename_i x
  split at h
  ·rename_i hc
   obtain rfl := Option.some.inj h
   obtain ⟨n, rfl⟩ : ∃ n : Nat, a1 = n := ⟨a1.toNat, by omega⟩
   have hn1 : 1 ≤ n := by omega
   have hn2 : n ≤ 16 := by omega
   obtain ⟨ad, c, e, hcl, hK, hcc⟩ := Kd.C_get hr0 z39 0 (by omega) (by simp)
   obtain rfl := k39_open hK
   subst e
   have hsrc : ∀ j v, (rowc39 1 x)[j]? = some v → w.cell? (ad.add j) = some v := by
    intro j v hv
    have := hcc j v (by simpa [rowc39, cells39] using hv)
    simpa using this
   have HS := Aside0.mk hsrc
   have HM := Aside0.mk (rp_mul n hn2)
   have HN1 := Aside0.mk hn1
   have HN2 := Aside0.mk hn2
   clear hsrc hcc hK hcl hr0 h hc
   have hw1 : IntKind.u64.wrap (n : Int) = n := by rw [IntKind.wrap_u64]; omega
   have hw2 : IntKind.i64.wrap (n : Int) = n := by rw [IntKind.wrap_i64]; omega
   have h1 : decide ((n : Int) < 0) = false := by simp
   have h2 : decide ((n : Int) > 9223372036854775807) = false := decide_eq_false (by omega)
   have hu44 := Try.underlying44
   show Calls Try.prog 141 #[.slice (some ad) 1 c0, .int .i64 n] w _
   clear hn1 hn2
   go_enter Try.func141, Try.ntmps141
   have HB0 := Aside0.mk (Below.refl w.heap.size w)
   have HC0 := Aside0.mk hc0
   clear hc0
   go_wp2_with (first
    | ((with_reducible refine gate_callee (f := 160) rfl ?_); refine gx_ (some 18) Try.func160 #[.int .u64 1, .int .u64 n] ?_; (with_reducible refine (bits_Mul.calls 1 n 0 n _ HM.out).mono ?_); rintro e w1 ⟨rfl, ⟨nd, rfl⟩⟩; refine ⟨_, rfl, ?_⟩)
    | ((with_reducible refine gate_dst (N := 30) rfl ?_); refine mk39_ (N := 30) rfl rfl 44 (.tmp 29) (.tmp 29) rfl n rfl rfl Try.underlying44 _ info39 (by have := HN2.out; omega) ?_; intro b w2 hbs hrp hb; have HBS := Aside0.mk hbs; have HRP := Aside0.mk (hrp.out x); have HB := Aside0.mk (below_step (pw_below_drewN HB0.out _) hb); have HSZ := Aside0.mk (show w.heap.size ≤ b by rw [← hbs]; exact Nat.le_refl _); clear hbs hrp hb)
    | ((with_reducible refine gate_dst (N := 33) rfl ?_); refine cp39_ rfl (.tmp 31) (.tmp 32) 44 rfl Try.underlying44 (by kernel_rfl) b n 0 1 x n n ad 1 c0 rfl rfl (by have := HN1.out; exact Nat.min_eq_left this) HRP.out ?src (by have := HN1.out; omega) w.heap.size w HB.out HSZ.out ?_; (case src => intro j v hv; exact pw_cell_below HB.out (HS.out j v hv)); intro w3 hrp hb; have HRP3 := hrp; have HB3 := hb; clear hrp hb))
   clear HRP HB
   go_loopg [8] n (fun kq v8 w' => ∃ m : Nat, v8 = .int .i64 m ∧ Aside0 (1 ≤ m ∧ m ≤ n ∧ n - m ≤ kq) ∧ Aside0 (RpSt w' b n m x) ∧ Aside0 (Below w.heap.size w w'))
   case atStart => exact ⟨1, rfl, ⟨by have := HN1.out; omega⟩, ⟨HRP3.out⟩, ⟨HB3.out⟩⟩
   case round =>
    obtain ⟨m, rfl, HM8, HR, HB4⟩ := hrel
    clear HRP3 HB3
    by_cases c : m < n
    ·obtain ⟨g1, rfl⟩ : ∃ g1, gk = g1 + 1 := ⟨gk - 1, by have := HM8.out; omega⟩
     have hmn := Aside0.mk c
     have d1 : decide ((m : Int) < (n : Int)) = true := decide_eq_true (by omega)
     have d2 : decide (m < n) = true := decide_eq_true c
     obtain ⟨i0, hi, hzz⟩ := Option.map_eq_some_iff.1 info39
     have hs1 : ∀ W, (Instr.slice 44 (.slice (some ⟨b, 0, none⟩) n n) (some (.int .i64 m)) none none).run Try.prog W = .ok (.slice (some ⟨b, m * 3, none⟩) (n - m) (n - m)) W := by
      intro W
      have := cut_from (P := Try.prog) 44 39 .i64 Try.underlying44 hi 3 (by simpa using congrArg (fun z => z.2.1) hzz) (some ⟨b, 0, none⟩) n n (m : Int) (by omega) (by omega) W
      rw [this, Int.toNat_natCast, if_neg (by omega)]
      simp [Addr.add]
      omega
     have hs2 : ∀ W, (Instr.slice 44 (.slice (some ⟨b, 0, none⟩) n n) none (some (.int .i64 m)) none).run Try.prog W = .ok (.slice (some ⟨b, 0, none⟩) m n) W := by
      intro W
      have := cut_to (P := Try.prog) 44 39 .i64 Try.underlying44 hi (some ⟨b, 0, none⟩) n n (m : Int) (by omega) (by omega) (Nat.le_refl _) W
      rw [this, Int.toNat_natCast]
     obtain ⟨k, hk⟩ : ∃ k, Nat.min m (n - m) = k := ⟨_, rfl⟩
     have hwk : wrap64 ((m : Int) + (k : Int)) = ((m + k : Nat) : Int) := by
      have h1 := HM8.out
      have h2 := HN2.out
      have h3 : k ≤ m := by rw [← hk]; exact Nat.min_le_left _ _
      unfold wrap64
      omega
     have hwk2 : IntKind.i64.wrap ((m : Int) + (k : Int)) = ((m + k : Nat) : Int) := by
      have h1 := HM8.out
      have h2 := HN2.out
      have h3 : k ≤ m := by rw [← hk]; exact Nat.min_le_left _ _
      rw [IntKind.wrap_i64]
      omega
     have HK := Aside0.mk hk
     clear hi hzz i0 c hk
     go_wp2
     go_region_law (refine cq39_ rfl (.tmp 41) (.tmp 44) 44 rfl Try.underlying44 (by kernel_rfl) b n m k x (n - m) (n - m) ⟨b, 0, none⟩ m n (by simp [Act.eval, Act.put]) (by simp [Act.eval, Act.put]) HK.out HR.out (HR.out.reads k (by rw [← HK.out]; exact Nat.min_le_left _ _) HM8.out.2.1) (by have h1 := HK.out; have h2 : Nat.min m (n - m) ≤ n - m := Nat.min_le_right _ _; have h3 := HM8.out; omega) w.heap.size w (by first | exact HB4.out | exact below_drew1 HB4.out) HSZ.out ?_; intro w4 hrp4 hb4)
     have hkk : 1 ≤ k := by
      have h1 := HK.out
      have h2 := HM8.out
      have h3 := hmn.out
      rw [← h1]
      exact Nat.le_min.mpr ⟨by omega, by omega⟩
     have hkl : m + k ≤ n := by
      have h1 := HK.out
      have h2 : Nat.min m (n - m) ≤ n - m := Nat.min_le_right _ _
      have h3 := HM8.out
      omega
     have HKK := Aside0.mk (And.intro hkk hkl)
     clear hkk hkl
     go_wp2
     go_roundg g1
     case measure => omega
     case rel => exact ⟨m + k, rfl, ⟨by have := HM8.out; have := HKK.out; omega⟩, hrp4, hb4⟩
    ·have d1 : decide ((m : Int) < (n : Int)) = false := decide_eq_false (by omega)
     have d2 : decide (m < n) = false := decide_eq_false c
     have e : m = n := by have := HM8.out; omega
     have HRF : Aside0 (RpSt wr b n n x) := ⟨by have := HR.out; rwa [e] at this⟩
     clear HR e c
     go_wp2
     go_ret
     exact ⟨_, rfl, HRF.out.full HSZ.out (by have := HN2.out; omega), HB4.out⟩
  ·cases h
 ·cases h

end Go.Proofs.Ytcgpomicgbmdlaa.PFnBanks
namespace Go.Proofs.Ytcgpomicgbmdlaa.PFnBanks
open Go.RowKit Go.Proofs.YtcgpomicgbmdlaaW.PrintWords Go.Proofs.YtcgpomicgbmdlaaW.PrintLast Go.Proofs.YtcgpomicgbmdlaaW.PrintMore
attribute [local go_sem] max2_int min2_int max_two min_two max_three min_three max_four min_four   -- for this text's walks alone
set_option linter.unusedVariables false
set_option linter.unusedSimpArgs false

/-! ### impl_Feeder_flat: function 93 -/
-- MANUAL 0 1
-- IMPORT Derived.Deep.RegionWith
-- IMPORT Derived.Deep.DeepMust
-- IMPORT Derived.Outline
def impl_Feeder_flat.f (s0_0 : Cx) (s0_1 : Cx) (s0_2 : Cx) (s0_3 : List (S66)) : Option (List (S39) × Cx × Cx × Cx) :=
 (slices_Repeat_impl_Phases.f [⟨s0_0, s0_1, s0_2⟩] (s0_3.length : Int)).bind fun t => some (t, s0_0, s0_1, s0_2)
theorem C_new39 (W : World) (x : S39) : Kd.C k39 (W.alloc (.cells #[.complex .f32 x.f0.re x.f0.im, .complex .f32 x.f1.re x.f1.im, .complex .f32 x.f2.re x.f2.im] 39)) (some ⟨W.heap.size, 0, none⟩) 1 [x] := by
 refine ⟨rfl, by decide, fun _ => ⟨⟨W.heap.size, 0, none⟩, rfl, fun j p hp => ?_⟩⟩
 match j, hp with
 | 0, hp =>
  obtain rfl := Option.some.inj hp
  refine ⟨cells39 x, rfl, k39_mk _ x, fun i u hu => ?_⟩
  have h1 := blk_cell (blk_new W (.cells #[.complex .f32 x.f0.re x.f0.im, .complex .f32 x.f1.re x.f1.im, .complex .f32 x.f2.re x.f2.im] 39)) i
  have e2 : (⟨W.heap.size, 0, none⟩ : Addr).add (0 * k39.sz + i) = ⟨W.heap.size, i, none⟩ := by unfold Addr.add; split <;> simp_all
  rw [e2, h1]
  simpa [cells39] using hu
theorem flat_fin {w0 w W w1 : World} {g : Nat} {a b c : Cx} {l : List S66} {t : List S39} {v : Value} (hI : IsS42 w0 W g a b c l) (hB : Below w0.heap.size w0 W) (hK : KeepBut w W g none) (hb : Below W.heap.size W w1) (ho : Kd.R k39 39 w1 W.heap.size (fun _ => True) v t) :
  Kd.R k39 39 w1 w.heap.size (fun _ => True) v t ∧ IsS42 w0 w1 g a b c l ∧ Below w0.heap.size w0 w1 ∧ KeepBut w w1 g none :=
 ⟨Kd.R_lower ho hK.1, hI.below hb, below_step hB hb, KeepBut.trans hK (KeepBut.of_below hb g none) (.inl rfl)⟩
set_option maxHeartbeats 8000000 in
set_option maxRecDepth 100000 in
theorem impl_Feeder_flat.calls (g : Nat) (s0_0 : Cx) (s0_1 : Cx) (s0_2 : Cx) (s0_3 : List (S66)) (r1 : List (S39)) (r2 : Cx) (r3 : Cx) (r4 : Cx) (w0 w : World) (hI : IsS42 w0 w g s0_0 s0_1 s0_2 s0_3) (hB : Below w0.heap.size w0 w) (h : impl_Feeder_flat.f s0_0 s0_1 s0_2 s0_3 = some (r1, r2, r3, r4)) :
  Calls Try.prog 93 #[.pointer (some ⟨g, 0, none⟩)] w fun e w' => ∃ v0_ : Value, e = .returned (v0_) ∧ Kd.R k39 39 w' w.heap.size (fun _ => True) v0_ r1 ∧ IsS42 w0 w' g r2 r3 r4 s0_3 ∧ Below w0.heap.size w0 w' ∧ KeepBut w w' g none := by
 unfold impl_Feeder_flat.f at h
 replace h := Option.bind_eq_some_iff.mp h
 obtain ⟨t, A, h⟩ := h
 simp only [Option.some.injEq, Prod.mk.injEq] at h
 obtain ⟨rfl, rfl, rfl, rfl⟩ := h
 have HA := Aside0.mk A
 have HI := Aside0.mk hI
 have HB := Aside0.mk hB
 have hlt := IsS42.lt hI
 have hne : w.heap.size ≠ g := Nat.ne_of_gt hlt
 obtain ⟨AS, cS, hcs, hge, hr, hl⟩ := hI
 have hc0 := cellS42_0 hcs
 have hc1 := cellS42_1 hcs
 have hc2 := cellS42_2 hcs
 have hc3 := cellS42_3 hcs
 have hu42 := Try.underlying42
 have hu39 := Try.underlying39
 have hu44 := Try.underlying44
 obtain ⟨n, hn⟩ : ∃ n, n = s0_3.length := ⟨_, rfl⟩
 rw [← hn] at hc3 HA
 clear hcs hge hr hl A hB
 have HLT := Aside0.mk hlt
 have HN := Aside0.mk hn
 clear hn
 go_enter Try.func93, Try.ntmps93
 go_wp2
 go_region_with (go_at_call 141; refine (slices_Repeat_impl_Phases.calls _ _ [⟨s0_0, s0_1, s0_2⟩] _ t _ ?s1 ?s2 HA.out).mono ?_; (case s1 => exact C_new39 _ ⟨s0_0, s0_1, s0_2⟩); (case s2 => simp); rintro e w1 ⟨v, rfl, ho, hb⟩)
 all_goals
  have HO := Aside0.mk (flat_fin (w := w) (by repeat (first | exact HI.out | apply IsS42.alloc | apply IsS42.drew)) (by repeat (first | exact HB.out | apply below_alloc | apply below_drew1)) (by repeat (first | exact KeepBut.refl _ _ _ | apply keep_alloc | apply keep_drew)) hb ho)
  clear hb ho
  go_wp2
  go_ret
  exact ⟨_, rfl, HO.out⟩

end Go.Proofs.Ytcgpomicgbmdlaa.PFnBanks
namespace Go.Proofs.Ytcgpomicgbmdlaa.PFnBanks
open Go.RowKit Go.Proofs.YtcgpomicgbmdlaaW.PrintWords Go.Proofs.YtcgpomicgbmdlaaW.PrintLast Go.Proofs.YtcgpomicgbmdlaaW.PrintMore
attribute [local go_sem] max2_int min2_int max_two min_two max_three min_three max_four min_four   -- for this text's walks alone
set_option linter.unusedVariables false
set_option linter.unusedSimpArgs false

/-! ### impl_Feeder_back_f82: function 131 -/
def impl_Feeder_back_f82.l0 : Nat → List (S39) → Int → Cx → Cx → Cx → List (S66) → Option ((List (S39)) × Cx × Cx × Cx)
 | 0, _, _, _, _, _, _ => none
 | k + 1, x7, x8, x1000, x1001, x1002, x1003 => if x8 > 0 then (if 0 ≤ x8 then (if x8 < (x7.length : Int) then ((impl_same.f x8 ((rd_T39 x7 x8).f0) ((rd_T39 x7 x8).f1) ((rd_T39 x7 x8).f2)).bind fun bt396 => ((some (x7.set (x8 : Int).toNat (⟨bt396.1, bt396.2.1, bt396.2.2⟩ : S39) : List (S39))).bind fun y399 => (if x8 < (x1003.length : Int) then (if 0 ≤ ((rd_T66 x1003 x8).f0) then (if ((rd_T66 x1003 x8).f0) < (x7.length : Int) then ((impl_AddPhases.f ((rd_T39 y399 ((rd_T66 x1003 x8).f0)).f0) ((rd_T39 y399 ((rd_T66 x1003 x8).f0)).f1) ((rd_T39 y399 ((rd_T66 x1003 x8).f0)).f2) ((rd_T39 y399 x8).f0) ((rd_T39 y399 x8).f1) ((rd_T39 y399 x8).f2)).bind fun bt403 => (impl_Feeder_back_f82.l0 k (y399.set (((rd_T66 x1003 x8).f0) : Int).toNat (⟨bt403.1, bt403.2.1, bt403.2.2⟩ : S39)) (wrap64 (x8 - 1)) x1000 x1001 x1002 x1003)) else (none)) else (none)) else (none)))) else (none)) else (none)) else (some (x7, x1000, x1001, x1002))
def impl_Feeder_back_f82.f (k : Nat) (s0_0 : Cx) (s0_1 : Cx) (s0_2 : Cx) (s0_3 : List (S66)) (l1 : List (S39))  : Option ((List (S39)) × Cx × Cx × Cx) := (slices_Clone_impl_Phases.f l1).bind fun t392 => (impl_Feeder_back_f82.l0 k t392 (wrap64 ((t392.length : Int) - 1)) s0_0 s0_1 s0_2 s0_3)
theorem impl_Feeder_back_f82.mono_l : ∀ k, (∀ y0 y1 y2 y3 y4 y5, LeO (impl_Feeder_back_f82.l0 k y0 y1 y2 y3 y4 y5) (impl_Feeder_back_f82.l0 (k + 1) y0 y1 y2 y3 y4 y5))
 | 0 => fun _ _ _ _ _ _ r h => by simp [impl_Feeder_back_f82.l0] at h
 | k + 1 => by
  have ih0 := impl_Feeder_back_f82.mono_l k
  ·intro y0 y1 y2 y3 y4 y5
   unfold impl_Feeder_back_f82.l0
   repeat' first
   | (with_reducible exact ih0 _ _ _ _ _ _)
   | (with_reducible exact LeO.refl _)
   | (with_reducible exact LeO.none _)
   | (with_reducible refine LeO.ite ?_ ?_)
   | (with_reducible refine LeO.bind ?_ (fun _ => ?_))
   | exact ih0 _ _ _ _ _ _
   | exact LeO.none _
   | refine LeO.ite ?_ ?_
   | refine LeO.bind ?_ (fun _ => ?_)
theorem impl_Feeder_back_f82.mono : ∀ a0 a1 a2 a3 a4 k, LeO (impl_Feeder_back_f82.f k a0 a1 a2 a3 a4) (impl_Feeder_back_f82.f (k + 1) a0 a1 a2 a3 a4) := by
 intro a0 a1 a2 a3 a4 k
 have ih0 := impl_Feeder_back_f82.mono_l k
 unfold impl_Feeder_back_f82.f
 repeat' first
   | (with_reducible exact ih0 _ _ _ _ _ _)
   | (with_reducible exact LeO.refl _)
   | (with_reducible exact LeO.none _)
   | (with_reducible refine LeO.ite ?_ ?_)
   | (with_reducible refine LeO.bind ?_ (fun _ => ?_))
   | exact ih0 _ _ _ _ _ _
   | exact LeO.none _
   | refine LeO.ite ?_ ?_
   | refine LeO.bind ?_ (fun _ => ?_)
def impl_Feeder_back_f82.T7 : Bool × List (List Nat × List Nat) := (true, [([], []), ([], []), ([], []), ([], []), ([2, 3], [2, 3]), ([4], [4]), ([], []), ([], []), ([6, 7], [6, 7]), ([8], [8]), ([5, 9], [5, 9]), ([0, 1, 0, 1, 2, 3, 4, 5, 6, 7, 8, 9, 10], [0, 1]), ([11, 10, 10, 0, 1, 2, 3, 4, 5, 6, 7, 8, 9, 10], [10, 11])])
def impl_Feeder_back_f82.B7 : List Nat := [0, 0, 0, 0, 12, 28, 0, 0, 192, 448, 1020, 2047, 4095]
theorem impl_Feeder_back_f82.tab7 : rtab .any (opsOf Try.f131 7) = impl_Feeder_back_f82.T7 := by kernel_rfl
theorem impl_Feeder_back_f82.bits7 : waitsOk impl_Feeder_back_f82.T7.2 impl_Feeder_back_f82.B7 = true := by kernel_rfl
set_option maxHeartbeats 8000000 in
set_option maxRecDepth 100000 in
theorem impl_Feeder_back_f82.calls (k : Nat) (g : Nat) (s0_0 : Cx) (s0_1 : Cx) (s0_2 : Cx) (s0_3 : List (S66)) (A1 : Option Addr) (c1 : Nat) (l1 : List (S39))  (r1 : List (S39)) (r2 : Cx) (r3 : Cx) (r4 : Cx) (w0 w : World) (hI : IsS42 w0 w g s0_0 s0_1 s0_2 s0_3) (hB : Below w0.heap.size w0 w) (hr1 : ∀ W_, KeepBut w W_ g none → Kd.C k39 W_ A1 l1.length l1) (hc1 : l1.length ≤ c1) (h : impl_Feeder_back_f82.f k s0_0 s0_1 s0_2 s0_3 l1 = some (r1, r2, r3, r4)) :
  Calls Try.prog 131 #[.pointer (some ⟨g, 0, none⟩), .slice A1 l1.length c1, .func (.func 82) #[] #[]] w fun e w' => ∃ v0_ : Value, e = .returned (v0_) ∧ Kd.R k39 39 w' w.heap.size (fun _ => True) v0_ r1 ∧ IsS42 w0 w' g r2 r3 r4 s0_3 ∧ Below w0.heap.size w0 w' ∧ KeepBut w w' g none := by
 have hu39 := Try.underlying39
 have HR1 := Aside0.mk hr1
 have HC1 := Aside0.mk hc1
 clear hr1 hc1
 have HI0 := Aside0.mk hI
 have HK := Aside0.mk (KeepBut.refl w g none)
 have HL := Aside0.mk hB.size
 clear hI
 have HW0 := Aside0.mk hB.size
 have HB := Aside0.mk hB
 clear hB
 have H : ((slices_Clone_impl_Phases.f l1).bind fun t392 => (impl_Feeder_back_f82.l0 k t392 (wrap64 ((t392.length : Int) - 1)) s0_0 s0_1 s0_2 s0_3)) = some (r1, r2, r3, r4) := h
 clear h
 replace H := Option.bind_eq_some_iff.mp H
 obtain ⟨t392, A40, H⟩ := H
 try dsimp only at H
 have A4 := Aside0.mk A40
 clear A40
 have H' := Aside0.mk H
 clear H
 go_enter Try.func131, Try.ntmps131
 go_wp2_with (first | ((with_reducible refine gate_callee (f := 140) rfl ?_); refine gx_ (some 11) Try.func140 #[.slice A1 l1.length c1] ?_; (with_reducible refine (slices_Clone_impl_Phases.calls _ _ l1 t392 _ ?side1 ?side2 A4.out).mono ?_); (case side1 => exact Kd.C_foot_now HR1.out (by repeat (first | (with_reducible first | exact HK.out | apply KeepBut.set_ | apply keep_drewN | apply keep_drew | apply keep_alloc) | exact HK.out))); (case side2 => exact HC1.out); rintro e w5 ⟨v393, rfl, ho0, hb⟩; refine ⟨_, rfl, ?_⟩; have n0_ := Aside0.mk (Kd.R_lower ho0 (keep_size (w := w) (g := g) (row := none) (by repeat (first | (with_reducible first | exact HK.out | apply KeepBut.set_ | apply keep_drewN | apply keep_drew | apply keep_alloc) | exact HK.out)))); have n1_ := Aside0.mk (IsS42.below (by have hi_ := HI0.out; exact IsS42.up) hb); have n2_ := Aside0.mk (KeepBut.trans (by repeat (first | (with_reducible first | exact HK.out | apply KeepBut.set_ | apply keep_drewN | apply keep_drew | apply keep_alloc) | exact HK.out)) (KeepBut.of_below hb g none) (.inl rfl)); have n3_ := Aside0.mk (below_step (by have ge_ := IsS42.ge HI0.out; exact tb) hb); clear HI0; clear HK; clear HB; have HO394 := n0_; have HI0 := n1_; have HK := n2_; have HB := n3_; clear n0_ n1_ n2_ n3_; (try clear hb); (try clear hb2); (try clear hk); (try clear hi); (try clear ho0); obtain ⟨Ao6, co6, eo6⟩ := Kd.R_slice HO394.out; subst eo6))
 go_loopg [8] k (fun kq v8 w' => ∃ (x7_1 : List (S39)) (x8_1 : Int), v8 = .int .i64 x8_1 ∧ Aside0 (impl_Feeder_back_f82.l0 kq x7_1 x8_1 s0_0 s0_1 s0_2 s0_3 = some (r1, r2, r3, r4)) ∧ Aside0 (kq ≤ k) ∧ Aside0 (Kd.R k39 39 w' w.heap.size (fun _ => True) (.slice Ao6 t392.length co6) x7_1) ∧ Aside0 (IsS42 w0 w' g s0_0 s0_1 s0_2 s0_3) ∧ Aside0 (KeepBut w w' g none) ∧ Aside0 (Below w0.heap.size w0 w'))
 case atStart => exact ⟨(t392), (wrap64 ((t392.length : Int) - 1)), rs_, H', ⟨Nat.le_refl _⟩, ⟨by refine ru ?_; exact HO394.out⟩, ⟨by have hi_ := HI0.out; exact IsS42.up⟩, ⟨by repeat (first | (with_reducible first | exact HK.out | apply KeepBut.set_ | apply keep_drewN | apply keep_drew | apply keep_alloc) | exact HK.out)⟩, ⟨by have ge_ := IsS42.ge HI0.out; exact tb⟩⟩
 case round =>
  clear H'
  try clear c1
  try clear p2
  try clear p6
  obtain ⟨x7_1, x8_1, rfl, HA, HK1, HO_7, HI0, HK, HB⟩ := hrel
  have hl7_1 := (Kd.R_reads' HO_7.out).1
  rw [hl7_1] at HO_7
  (try simp only [hl7_1])
  cases gk with
  | zero => exact absurd HA.out (by simp [impl_Feeder_back_f82.l0])
  | succ k1 =>
   have H := HA.out
   clear HA
   simp only [impl_Feeder_back_f82.l0] at H
   by_cases c7 : x8_1 > 0
   ·rw [if_pos c7] at H
    have c7b0 : decide (0 < x8_1) = true := decide_eq_true c7
    clear c7
    by_cases c8 : 0 ≤ x8_1
    ·rw [if_pos c8] at H
     have c8b0 : decide (0 ≤ x8_1) = true := decide_eq_true c8
     clear c8
     by_cases c9 : x8_1 < (x7_1.length : Int)
     ·rw [if_pos c9] at H
      have c9b0 : decide (x8_1 < (x7_1.length : Int)) = true := decide_eq_true c9
      clear c9
      replace H := Option.bind_eq_some_iff.mp H
      obtain ⟨⟨t396, t397, t398⟩, A100, H⟩ := H
      try dsimp only at H
      have A10 := Aside0.mk A100
      clear A100
      obtain ⟨y399, hy399⟩ : ∃ y_ : List (S39), y_ = (x7_1.set (x8_1 : Int).toNat (⟨t396, t397, t398⟩ : S39)) := ⟨_, rfl⟩
      replace H : (if x8_1 < (s0_3.length : Int) then (if 0 ≤ ((rd_T66 s0_3 x8_1).f0) then (if ((rd_T66 s0_3 x8_1).f0) < (x7_1.length : Int) then ((impl_AddPhases.f ((rd_T39 y399 ((rd_T66 s0_3 x8_1).f0)).f0) ((rd_T39 y399 ((rd_T66 s0_3 x8_1).f0)).f1) ((rd_T39 y399 ((rd_T66 s0_3 x8_1).f0)).f2) ((rd_T39 y399 x8_1).f0) ((rd_T39 y399 x8_1).f1) ((rd_T39 y399 x8_1).f2)).bind fun bt403 => (impl_Feeder_back_f82.l0 k1 (y399.set (((rd_T66 s0_3 x8_1).f0) : Int).toNat (⟨bt403.1, bt403.2.1, bt403.2.2⟩ : S39)) (wrap64 (x8_1 - 1)) s0_0 s0_1 s0_2 s0_3)) else (none)) else (none)) else (none)) = some (r1, r2, r3, r4) := by first | (rw [hy399]; with_reducible exact H) | (have H2_ := (Option.bind_some _ _).symm.trans H; rw [hy399]; with_reducible exact H2_) | (have H2_ := (Option.bind_some _ _).symm.trans H; with_reducible exact H2_) | with_reducible exact H | (rw [hy399]; exact H) | exact H
      have Ny399 := Aside0.mk hy399
      clear hy399
      by_cases c12 : x8_1 < (s0_3.length : Int)
      ·rw [if_pos c12] at H
       have c12b0 : decide (x8_1 < (s0_3.length : Int)) = true := decide_eq_true c12
       clear c12
       by_cases c13 : 0 ≤ ((rd_T66 s0_3 x8_1).f0)
       ·rw [if_pos c13] at H
        have c13b0 : decide (0 ≤ ((rd_T66 s0_3 x8_1).f0)) = true := decide_eq_true c13
        clear c13
        by_cases c14 : ((rd_T66 s0_3 x8_1).f0) < (x7_1.length : Int)
        ·rw [if_pos c14] at H
         have c14b0 : decide (((rd_T66 s0_3 x8_1).f0) < (x7_1.length : Int)) = true := decide_eq_true c14
         clear c14
         replace H := Option.bind_eq_some_iff.mp H
         obtain ⟨⟨t403, t404, t405⟩, A150, H⟩ := H
         try dsimp only at H
         have A15 := Aside0.mk A150
         clear A150
         obtain ⟨y406, hy406⟩ : ∃ y_ : List (S39), y_ = (y399.set (((rd_T66 s0_3 x8_1).f0) : Int).toNat (⟨t403, t404, t405⟩ : S39)) := ⟨_, rfl⟩
         replace H : (impl_Feeder_back_f82.l0 k1 y406 (wrap64 (x8_1 - 1)) s0_0 s0_1 s0_2 s0_3) = some (r1, r2, r3, r4) := by first | (rw [hy406]; with_reducible exact H) | (have H2_ := (Option.bind_some _ _).symm.trans H; rw [hy406]; with_reducible exact H2_) | (have H2_ := (Option.bind_some _ _).symm.trans H; with_reducible exact H2_) | with_reducible exact H | (rw [hy406]; exact H) | exact H
         have Ny406 := Aside0.mk hy406
         clear hy406
         have H' := Aside0.mk H
         clear H
         have p395 : 0 ≤ (x8_1 : Int) := of_decide_eq_true (by first | (with_reducible assumption) | assumption)
         have q395 : x8_1 < (x7_1.length : Int) := of_decide_eq_true (by first | (with_reducible assumption) | assumption)
         obtain ⟨ad395, e395, hx395_0, hx395_1, hx395_2⟩ := at_T39 (Kd.R_reads' HO_7.out).2.2 x8_1 p395 q395
         cases e395
         replace p395 := eq_true p395
         replace q395 := eq_true q395
         try go_wp2_with (first | (go_at_call 82; (with_reducible refine (impl_same.calls x8_1 ((rd_T39 x7_1 x8_1).f0) ((rd_T39 x7_1 x8_1).f1) ((rd_T39 x7_1 x8_1).f2) t396 t397 t398 _ A10.out).mono ?_); rintro e w17 ⟨rfl, hb⟩; have n0_ := Aside0.mk (Kd.R_below (ru HO_7.out) hb); have n1_ := Aside0.mk (IsS42.below (by have hi_ := HI0.out; exact IsS42.up) hb); have n2_ := Aside0.mk (KeepBut.trans (by repeat (first | (with_reducible first | exact HK.out | apply KeepBut.set_ | apply keep_drewN | apply keep_drew | apply keep_alloc) | exact HK.out)) (KeepBut.of_below hb g none) (.inl rfl)); have n3_ := Aside0.mk (below_step (by have ge_ := IsS42.ge HI0.out; exact tb) hb); clear HO_7; clear HI0; clear HK; clear HB; have HO_7 := n0_; have HI0 := n1_; have HK := n2_; have HB := n3_; clear n0_ n1_ n2_ n3_; (try clear hb); (try clear hb2); (try clear hk); (try clear hi); have p11 : 0 ≤ (x8_1 : Int) := of_decide_eq_true (by first | (with_reducible assumption) | assumption); have q11 : (x8_1 : Int) < ((x7_1.length : Int) : Int) := of_decide_eq_true (by first | (with_reducible assumption) | assumption); obtain ⟨go11, co11, eo11, gb11, gl11, cl11, HG11⟩ := Kd.R_form HO_7.out (by omega); (first | cases eo11 | (injection eo11 with ea_ en_ ec_; (first | subst ea_ | (injection ea_ with ea_; subst ea_)); subst ec_; clear en_)); have GB11 := Aside0.mk gb11; have GG11 := Aside0.mk HG11; clear gb11 gl11 HG11; (first | simp only [add_plain] at hx395_0 | skip); (first | simp only [add_plain] at hx395_1 | skip); (first | simp only [add_plain] at hx395_2 | skip); obtain ⟨ce11, hcl11, hM11, hcc11, hfr11⟩ := Kd.R_elem HO_7.out z39 (x8_1 : Int) p11 q11; obtain rfl := k39_openM hM11; have hx11_0 : w17.cell? ⟨go11, (x8_1 : Int).toNat * 3, none⟩ = some (.complex .f32 (((rd_T39 x7_1 x8_1).f0).re) (((rd_T39 x7_1 x8_1).f0).im)) := hcc11 0 _ rfl; have hx11_1 : w17.cell? ⟨go11, (x8_1 : Int).toNat * 3 + 1, none⟩ = some (.complex .f32 (((rd_T39 x7_1 x8_1).f1).re) (((rd_T39 x7_1 x8_1).f1).im)) := hcc11 1 _ rfl; have hx11_2 : w17.cell? ⟨go11, (x8_1 : Int).toNat * 3 + 2, none⟩ = some (.complex .f32 (((rd_T39 x7_1 x8_1).f2).re) (((rd_T39 x7_1 x8_1).f2).im)) := hcc11 2 _ rfl; have hf11_0 : w17.frozen? ⟨go11, (x8_1 : Int).toNat * 3, none⟩ = false := hfr11 0; have hf11_1 : w17.frozen? ⟨go11, (x8_1 : Int).toNat * 3 + 1, none⟩ = false := hfr11 1; have hf11_2 : w17.frozen? ⟨go11, (x8_1 : Int).toNat * 3 + 2, none⟩ = false := hfr11 2; clear hcl11 hcc11 hfr11 hM11; replace p11 := eq_true p11; replace q11 := eq_true q11; have HX18 := Aside0.mk (show Kd.R k39 39 w17 w.heap.size (fun _ => True) (.slice (some ⟨go11, 0, none⟩) x7_1.length co6) x7_1 from (ru HO_7.out)); obtain ⟨ce18, hcl18, hM18, hcc18, hfr18⟩ := Kd.R_elem HX18.out z39 (x8_1 : Int) (of_decide_eq_true (by first | (with_reducible assumption) | assumption)) (by have h_ : (x8_1 : Int) < ((x7_1.length : Int) : Int) := of_decide_eq_true (by first | (with_reducible assumption) | assumption); first | exact h_ | (have e_ := (Kd.R_reads' HO_7.out).1; omega) | simpa using h_); obtain rfl := k39_openM hM18; have HP18 := Kd.R_seg HX18.out (x8_1 : Int) (of_decide_eq_true (by first | (with_reducible assumption) | assumption)) (by have h_ : (x8_1 : Int) < ((x7_1.length : Int) : Int) := of_decide_eq_true (by first | (with_reducible assumption) | assumption); first | exact h_ | (have e_ := (Kd.R_reads' HO_7.out).1; omega) | simpa using h_) (seg := [.complex .f32 t396.re t396.im, .complex .f32 t397.re t397.im, .complex .f32 t398.re t398.im]) (j := 0) hcl18 hcc18 (show 3 ≤ 3 from by decide) (x' := (⟨t396, t397, t398⟩ : S39)) (k39_mkM _ _ _ (⟨t396, t397, t398⟩ : S39) ) (fun _ hk => hk); have hx18_0 := hcc18 0 _ rfl; (try simp only [show (k39).sz = 3 from rfl, Nat.mul_one, Nat.add_zero] at hx18_0); have hf18_0 := hfr18 0; (try simp only [show (k39).sz = 3 from rfl, Nat.mul_one, Nat.add_zero] at hf18_0); have hx18_1 := hcc18 1 _ rfl; (try simp only [show (k39).sz = 3 from rfl, Nat.mul_one, Nat.add_zero] at hx18_1); have hf18_1 := hfr18 1; (try simp only [show (k39).sz = 3 from rfl, Nat.mul_one, Nat.add_zero] at hf18_1); have hx18_2 := hcc18 2 _ rfl; (try simp only [show (k39).sz = 3 from rfl, Nat.mul_one, Nat.add_zero] at hx18_2); have hf18_2 := hfr18 2; (try simp only [show (k39).sz = 3 from rfl, Nat.mul_one, Nat.add_zero] at hf18_2); clear hcl18 hcc18 hfr18 hM18) | ((with_reducible refine gate_store (t := 39) (p := 28) rfl ?_); refine store_event (t := 39) (p := 28) (v := ?vo_w19) (w1 := (((w17.setCell ⟨go11, (x8_1 : Int).toNat * 3, none⟩ (.complex .f32 t396.re t396.im)).setCell ⟨go11, (x8_1 : Int).toNat * 3 + 1, none⟩ (.complex .f32 t397.re t397.im)).setCell ⟨go11, (x8_1 : Int).toNat * 3 + 2, none⟩ (.complex .f32 t398.re t398.im))) ?hg ?ho ?hn ?hr ?_; (case ho => rfl); (case hg => rfl); (case hn => rfl); (case hr => first | (go_simp; done) | (go_simp; rfl)); intro w19 hw; have hg : w17.grownBy w19 (some go11) := (by rw [hw]; exact HP18.2); have hp_ : Kd.R k39 39 w19 w.heap.size (fun _ => True) (.slice (some ⟨go11, 0, none⟩) x7_1.length co6) y399 := (by rw [hw, Ny399.out]; exact HP18.1); clear HP18; have n0_ := Aside0.mk (hp_); have n1_ := Aside0.mk (IsS42.grown (show IsS42 w0 _ g s0_0 s0_1 s0_2 s0_3 from by have hi_ := HI0.out; exact IsS42.up) hg (IsS42.own_ne HI0.out HO_7.out (by decide))); have n2_ := Aside0.mk ((by rw [hw]; exact below_set (below_set (below_set (HB.out) (Nat.le_trans HL.out GB11.out)) (Nat.le_trans HL.out GB11.out)) (Nat.le_trans HL.out GB11.out) : Below w0.heap.size w0 w19)); have n3_ := Aside0.mk (KeepBut.trans (by repeat (first | (with_reducible first | exact HK.out | apply KeepBut.set_ | apply keep_drewN | apply keep_drew | apply keep_alloc) | exact HK.out)) (KeepBut.of_grown hg g) (Kd.R_base2 HO_7.out)); clear HO_7; clear HI0; clear HB; clear HK; have HO_7 := n0_; have HI0 := n1_; have HB := n2_; have HK := n3_; clear n0_ n1_ n2_ n3_; clear hg hw hp_; obtain ⟨ASz20_3, cSz20_3, HGz20, hgz20, HSz20_3, HLz20_3⟩ := HI0.out; have hcz20_0 := cellS42_0 HGz20; have hcz20_1 := cellS42_1 HGz20; have hcz20_2 := cellS42_2 HGz20; have hcz20_3 := cellS42_3 HGz20; have hfz20_0 := blk_frozen HGz20 0; have hfz20_1 := blk_frozen HGz20 1; have hfz20_2 := blk_frozen HGz20 2; clear HGz20 hgz20; have p400 : 0 ≤ (x8_1 : Int) := of_decide_eq_true (by first | (with_reducible assumption) | assumption); have q400 : x8_1 < (s0_3.length : Int) := of_decide_eq_true (by first | (with_reducible assumption) | assumption); obtain ⟨ad400, e400, hx400_0, hx400_1, hx400_2, hx400_3, hx400_4, hx400_5, hx400_6, hx400_7⟩ := at_T66 HSz20_3 x8_1 p400 q400; cases e400; replace hx400_0 := pw_cell_below HB.out hx400_0; replace hx400_1 := pw_cell_below HB.out hx400_1; replace hx400_2 := pw_cell_below HB.out hx400_2; replace hx400_3 := pw_cell_below HB.out hx400_3; replace hx400_4 := pw_cell_below HB.out hx400_4; replace hx400_5 := pw_cell_below HB.out hx400_5; replace hx400_6 := pw_cell_below HB.out hx400_6; replace hx400_7 := pw_cell_below HB.out hx400_7; replace p400 := eq_true p400; replace q400 := eq_true q400))
         have n0_ := Aside0.mk (Kd.R_drew HO_7.out)
         have n1_ := Aside0.mk (IsS42.drew HI0.out)
         have n2_ := Aside0.mk (keep_drew HK.out)
         have n3_ := Aside0.mk (below_drew1 HB.out)
         clear HO_7
         clear HI0
         clear HK
         clear HB
         have HO_7 := n0_
         have HI0 := n1_
         have HK := n2_
         have HB := n3_
         clear n0_ n1_ n2_ n3_
         have p401 : 0 ≤ (((rd_T66 s0_3 x8_1).f0) : Int) := of_decide_eq_true (by first | (with_reducible assumption) | assumption)
         have q401 : ((rd_T66 s0_3 x8_1).f0) < (y399.length : Int) := (by have h_ : (((rd_T66 s0_3 x8_1).f0) : Int) < ((x7_1.length : Int) : Int) := of_decide_eq_true (by first | (with_reducible assumption) | assumption); first | (have e_ := (Kd.R_reads' HO_7.out).1; omega) | simpa only [Ny399.out, List.length_set] using h_)
         have ql401 : ((((rd_T66 s0_3 x8_1).f0) : Int) < ((x7_1.length : Int) : Int)) = True := eq_true (of_decide_eq_true (by first | (with_reducible assumption) | assumption))
         obtain ⟨ad401, e401, hx401_0, hx401_1, hx401_2⟩ := at_T39 (Kd.R_reads' HO_7.out).2.2 ((rd_T66 s0_3 x8_1).f0) p401 q401
         obtain rfl : (⟨go11, 0, none⟩ : Addr) = ad401 := (by injection e401)
         (first | simp only [add_plain] at hx401_0 | simp only [add_at] at hx401_0 | simp only [Addr.add, Nat.zero_add] at hx401_0 | skip)
         (first | simp only [add_plain] at hx401_1 | simp only [add_at] at hx401_1 | simp only [Addr.add, Nat.zero_add] at hx401_1 | skip)
         (first | simp only [add_plain] at hx401_2 | simp only [add_at] at hx401_2 | simp only [Addr.add, Nat.zero_add] at hx401_2 | skip)
         replace p401 := eq_true p401
         replace q401 := eq_true q401
         have p402 : 0 ≤ (x8_1 : Int) := of_decide_eq_true (by first | (with_reducible assumption) | assumption)
         have q402 : x8_1 < (y399.length : Int) := (by have h_ : (x8_1 : Int) < ((x7_1.length : Int) : Int) := of_decide_eq_true (by first | (with_reducible assumption) | assumption); first | (have e_ := (Kd.R_reads' HO_7.out).1; omega) | simpa only [Ny399.out, List.length_set] using h_)
         have ql402 : ((x8_1 : Int) < ((x7_1.length : Int) : Int)) = True := eq_true (of_decide_eq_true (by first | (with_reducible assumption) | assumption))
         obtain ⟨ad402, e402, hx402_0, hx402_1, hx402_2⟩ := at_T39 (Kd.R_reads' HO_7.out).2.2 x8_1 p402 q402
         obtain rfl : (⟨go11, 0, none⟩ : Addr) = ad402 := (by injection e402)
         (first | simp only [add_plain] at hx402_0 | simp only [add_at] at hx402_0 | simp only [Addr.add, Nat.zero_add] at hx402_0 | skip)
         (first | simp only [add_plain] at hx402_1 | simp only [add_at] at hx402_1 | simp only [Addr.add, Nat.zero_add] at hx402_1 | skip)
         (first | simp only [add_plain] at hx402_2 | simp only [add_at] at hx402_2 | simp only [Addr.add, Nat.zero_add] at hx402_2 | skip)
         replace p402 := eq_true p402
         replace q402 := eq_true q402
         refine start_ (n := 13) (S := fun w' => w'.cell? ⟨go11, (((rd_T66 s0_3 x8_1).f0)).toNat * 3, none⟩ = some (.complex .f32 (((rd_T39 y399 ((rd_T66 s0_3 x8_1).f0)).f0).re) (((rd_T39 y399 ((rd_T66 s0_3 x8_1).f0)).f0).im)) ∧ w'.cell? ⟨go11, (((rd_T66 s0_3 x8_1).f0)).toNat * 3 + 1, none⟩ = some (.complex .f32 (((rd_T39 y399 ((rd_T66 s0_3 x8_1).f0)).f1).re) (((rd_T39 y399 ((rd_T66 s0_3 x8_1).f0)).f1).im)) ∧ w'.cell? ⟨go11, (((rd_T66 s0_3 x8_1).f0)).toNat * 3 + 2, none⟩ = some (.complex .f32 (((rd_T39 y399 ((rd_T66 s0_3 x8_1).f0)).f2).re) (((rd_T39 y399 ((rd_T66 s0_3 x8_1).f0)).f2).im)) ∧ w'.cell? ⟨go11, (x8_1).toNat * 3, none⟩ = some (.complex .f32 (((rd_T39 y399 x8_1).f0).re) (((rd_T39 y399 x8_1).f0).im)) ∧ w'.cell? ⟨go11, (x8_1).toNat * 3 + 1, none⟩ = some (.complex .f32 (((rd_T39 y399 x8_1).f1).re) (((rd_T39 y399 x8_1).f1).im)) ∧ w'.cell? ⟨go11, (x8_1).toNat * 3 + 2, none⟩ = some (.complex .f32 (((rd_T39 y399 x8_1).f2).re) (((rd_T39 y399 x8_1).f2).im))) (ds := [12]) #[false, false, false, false, false, false, false, false, false, false, false, false, false] (by kernel_rfl) rfl rfl ⟨hx401_0, hx401_1, hx401_2, hx402_0, hx402_1, hx402_2⟩ (fun hHeld => ?_); refine with_tabW impl_Feeder_back_f82.tab7 impl_Feeder_back_f82.bits7 (fun HT_ HW_ => ?_)
         generalize w19.drew = w21 at HO_7 HI0 HK HB hx401_0 hx401_1 hx401_2 hx402_0 hx402_1 hx402_2 hHeld ⊢
         refine pure_ (i := 0) (N := some 37) (v := ?_) (a' := ?_) #[true, false, false, false, false, false, false, false, false, false, false, false, false] rfl rfl (any_of HT_.out (by kernel_rfl)) (fun _ _ _ h => h) (Or.inl ⟨by rfl, ?_⟩) ?_ ?_
         rotate_left
         ·intro w'
          go_simp
          with_reducible rfl
         rotate_left
         ·refine ps_ ?_
          rfl
         refine pure_ (i := 1) (N := some 38) (v := ?_) (a' := ?_) #[true, true, false, false, false, false, false, false, false, false, false, false, false] rfl rfl (any_of HT_.out (by kernel_rfl)) (fun _ _ _ h => h) (Or.inl ⟨by rfl, ?_⟩) ?_ ?_
         rotate_left
         ·intro w'
          go_simp
          with_reducible rfl
         rotate_left
         ·refine ps_ ?_
          rfl
         refine pure_ (i := 2) (N := some 39) (v := ?_) (a' := ?_) #[true, true, true, false, false, false, false, false, false, false, false, false, false] rfl rfl (any_of HT_.out (by kernel_rfl)) (fun _ _ _ h => h) (Or.inl ⟨by rfl, ?_⟩) ?_ ?_
         rotate_left
         ·intro w'
          go_simp
          with_reducible rfl
         rotate_left
         ·refine ps_ ?_
          rfl
         refine pure_ (i := 3) (N := some 40) (v := ?_) (a' := ?_) #[true, true, true, true, false, false, false, false, false, false, false, false, false] rfl rfl (any_of HT_.out (by kernel_rfl)) (fun _ _ _ h => h) (Or.inl ⟨by rfl, ?_⟩) ?_ ?_
         rotate_left
         ·intro w'
          go_simp
          with_reducible rfl
         rotate_left
         ·refine ps_ ?_
          rfl
         refine pure_ (i := 4) (N := some 41) (v := ?_) (a' := ?_) #[true, true, true, true, true, false, false, false, false, false, false, false, false] rfl rfl (any_of HT_.out (by kernel_rfl)) (fun _ _ _ h => h) (Or.inl ⟨by rfl, ?_⟩) ?_ ?_
         rotate_left
         ·intro w'
          go_simp
          with_reducible rfl
         rotate_left
         ·refine ps_ ?_
          rfl
         refine pure_ (i := 6) (N := some 43) (v := ?_) (a' := ?_) #[true, true, true, true, true, false, true, false, false, false, false, false, false] rfl rfl (any_of HT_.out (by kernel_rfl)) (fun _ _ _ h => h) (Or.inl ⟨by rfl, ?_⟩) ?_ ?_
         rotate_left
         ·intro w'
          go_simp
          with_reducible rfl
         rotate_left
         ·refine ps_ ?_
          rfl
         refine pure_ (i := 7) (N := some 44) (v := ?_) (a' := ?_) #[true, true, true, true, true, false, true, true, false, false, false, false, false] rfl rfl (any_of HT_.out (by kernel_rfl)) (fun _ _ _ h => h) (Or.inl ⟨by rfl, ?_⟩) ?_ ?_
         rotate_left
         ·intro w'
          go_simp
          with_reducible rfl
         rotate_left
         ·refine ps_ ?_
          rfl
         refine pure_ (i := 8) (N := some 45) (v := ?_) (a' := ?_) #[true, true, true, true, true, false, true, true, true, false, false, false, false] rfl rfl (any_of HT_.out (by kernel_rfl)) (fun _ _ _ h => h) (Or.inl ⟨by rfl, ?_⟩) ?_ ?_
         rotate_left
         ·intro w'
          go_simp
          with_reducible rfl
         rotate_left
         ·refine ps_ ?_
          rfl
         refine take_ (i := 5) (N := some 42) (v := ?_) (a' := ?_) #[true, true, true, true, true, true, true, true, true, false, false, false, false] rfl rfl (take_ofW HT_.out HW_.out (by kernel_rfl)) (fun _ _ _ h => h) (Or.inl ⟨by rfl, ?_⟩) hHeld ?_ ?_
         rotate_left
         ·rintro w' ⟨s0, s1, s2, s3, s4, s5⟩
          go_simp
          with_reducible rfl
         rotate_left
         ·refine ps_ ?_
          rfl
         refine take_ (i := 9) (N := some 46) (v := ?_) (a' := ?_) #[true, true, true, true, true, true, true, true, true, true, false, false, false] rfl rfl (take_ofW HT_.out HW_.out (by kernel_rfl)) (fun _ _ _ h => h) (Or.inl ⟨by rfl, ?_⟩) hHeld ?_ ?_
         rotate_left
         ·rintro w' ⟨s0, s1, s2, s3, s4, s5⟩
          go_simp
          with_reducible rfl
         rotate_left
         ·refine ps_ ?_
          rfl
         refine one_ (i := 10) (N := some 47) #[true, true, true, true, true, true, true, true, true, true, true, false, false] rfl rfl (one_of HT_.out (by kernel_rfl)) (by decide) (fun K hK => ?_)
         refine goes_ Try.func157 (by kernel_rfl) rfl #[.agg #[.complex .f32 (((rd_T39 y399 ((rd_T66 s0_3 x8_1).f0)).f0).re) (((rd_T39 y399 ((rd_T66 s0_3 x8_1).f0)).f0).im), .complex .f32 (((rd_T39 y399 ((rd_T66 s0_3 x8_1).f0)).f1).re) (((rd_T39 y399 ((rd_T66 s0_3 x8_1).f0)).f1).im), .complex .f32 (((rd_T39 y399 ((rd_T66 s0_3 x8_1).f0)).f2).re) (((rd_T39 y399 ((rd_T66 s0_3 x8_1).f0)).f2).im)], .agg #[.complex .f32 (((rd_T39 y399 x8_1).f0).re) (((rd_T39 y399 x8_1).f0).im), .complex .f32 (((rd_T39 y399 x8_1).f1).re) (((rd_T39 y399 x8_1).f1).im), .complex .f32 (((rd_T39 y399 x8_1).f2).re) (((rd_T39 y399 x8_1).f2).im)]] (by rfl) rfl rfl mp_ ?_
         with_reducible refine (impl_AddPhases.calls ((rd_T39 y399 ((rd_T66 s0_3 x8_1).f0)).f0) ((rd_T39 y399 ((rd_T66 s0_3 x8_1).f0)).f1) ((rd_T39 y399 ((rd_T66 s0_3 x8_1).f0)).f2) ((rd_T39 y399 x8_1).f0) ((rd_T39 y399 x8_1).f1) ((rd_T39 y399 x8_1).f2) t403 t404 t405 _ A15.out).mono ?_
         rintro e w22 ⟨rfl, hb⟩
         have HS0_ := (hb.cell (World.block_lt_of_cell? _ _ (hHeld.1))).trans (hHeld.1)
         have HS1_ := (hb.cell (World.block_lt_of_cell? _ _ (hHeld.2.1))).trans (hHeld.2.1)
         have HS2_ := (hb.cell (World.block_lt_of_cell? _ _ (hHeld.2.2.1))).trans (hHeld.2.2.1)
         have HS3_ := (hb.cell (World.block_lt_of_cell? _ _ (hHeld.2.2.2.1))).trans (hHeld.2.2.2.1)
         have HS4_ := (hb.cell (World.block_lt_of_cell? _ _ (hHeld.2.2.2.2.1))).trans (hHeld.2.2.2.2.1)
         have HS5_ := (hb.cell (World.block_lt_of_cell? _ _ (hHeld.2.2.2.2.2))).trans (hHeld.2.2.2.2.2)
         refine ⟨_, rfl, ?_⟩
         have n0_ := Aside0.mk (Kd.R_below (ru HO_7.out) hb)
         have n1_ := Aside0.mk (IsS42.below (by have hi_ := HI0.out; exact IsS42.up) hb)
         have n2_ := Aside0.mk (KeepBut.trans (by repeat (first | (with_reducible first | exact HK.out | apply KeepBut.set_ | apply keep_drewN | apply keep_drew | apply keep_alloc) | exact HK.out)) (KeepBut.of_below hb g none) (.inl rfl))
         have n3_ := Aside0.mk (below_step (by have ge_ := IsS42.ge HI0.out; exact tb) hb)
         clear HO_7
         clear HI0
         clear HK
         clear HB
         have HO_7 := n0_
         have HI0 := n1_
         have HK := n2_
         have HB := n3_
         clear n0_ n1_ n2_ n3_
         (try clear hb)
         (try clear hb2)
         (try clear hk)
         (try clear hi)
         have p16 : 0 ≤ (((rd_T66 s0_3 x8_1).f0) : Int) := of_decide_eq_true (by first | (with_reducible assumption) | assumption)
         have q16 : (((rd_T66 s0_3 x8_1).f0) : Int) < ((x7_1.length : Int) : Int) := of_decide_eq_true (by first | (with_reducible assumption) | assumption)
         obtain ⟨ce16, hcl16, hM16, hcc16, hfr16⟩ := Kd.R_elem HO_7.out z39 (((rd_T66 s0_3 x8_1).f0) : Int) p16 q16
         obtain rfl := k39_openM hM16
         have hx16_0 : World.cell? _ ⟨go11, (((rd_T66 s0_3 x8_1).f0) : Int).toNat * 3, none⟩ = some (.complex .f32 (((rd_T39 y399 ((rd_T66 s0_3 x8_1).f0)).f0).re) (((rd_T39 y399 ((rd_T66 s0_3 x8_1).f0)).f0).im)) := hcc16 0 _ rfl
         have hx16_1 : World.cell? _ ⟨go11, (((rd_T66 s0_3 x8_1).f0) : Int).toNat * 3 + 1, none⟩ = some (.complex .f32 (((rd_T39 y399 ((rd_T66 s0_3 x8_1).f0)).f1).re) (((rd_T39 y399 ((rd_T66 s0_3 x8_1).f0)).f1).im)) := hcc16 1 _ rfl
         have hx16_2 : World.cell? _ ⟨go11, (((rd_T66 s0_3 x8_1).f0) : Int).toNat * 3 + 2, none⟩ = some (.complex .f32 (((rd_T39 y399 ((rd_T66 s0_3 x8_1).f0)).f2).re) (((rd_T39 y399 ((rd_T66 s0_3 x8_1).f0)).f2).im)) := hcc16 2 _ rfl
         have hf16_0 : World.frozen? _ ⟨go11, (((rd_T66 s0_3 x8_1).f0) : Int).toNat * 3, none⟩ = false := hfr16 0
         have hf16_1 : World.frozen? _ ⟨go11, (((rd_T66 s0_3 x8_1).f0) : Int).toNat * 3 + 1, none⟩ = false := hfr16 1
         have hf16_2 : World.frozen? _ ⟨go11, (((rd_T66 s0_3 x8_1).f0) : Int).toNat * 3 + 2, none⟩ = false := hfr16 2
         clear hcl16 hcc16 hfr16 hM16
         replace p16 := eq_true p16
         replace q16 := eq_true q16
         have HN0_go11 := Aside0.mk (show g ≠ go11 from by have h_ := IsS42.own_ne HI0.out HO_7.out (by decide); intro e_; exact h_ (by rw [e_]; rfl))
         obtain ⟨ce23, hcl23, hM23, hcc23, hfr23⟩ := Kd.R_elem HO_7.out z39 (((rd_T66 s0_3 x8_1).f0) : Int) (of_decide_eq_true (by first | (with_reducible assumption) | assumption)) (by have h_ : (((rd_T66 s0_3 x8_1).f0) : Int) < ((x7_1.length : Int) : Int) := of_decide_eq_true (by first | (with_reducible assumption) | assumption); first | exact h_ | (have e_ := (Kd.R_reads' HO_7.out).1; omega) | simpa using h_)
         obtain rfl := k39_openM hM23
         have HP23 := (Kd.R_seg HO_7.out (((rd_T66 s0_3 x8_1).f0) : Int) (of_decide_eq_true (by first | (with_reducible assumption) | assumption)) (by have h_ : (((rd_T66 s0_3 x8_1).f0) : Int) < ((x7_1.length : Int) : Int) := of_decide_eq_true (by first | (with_reducible assumption) | assumption); first | exact h_ | (have e_ := (Kd.R_reads' HO_7.out).1; omega) | simpa using h_) (seg := [.complex .f32 t403.re t403.im, .complex .f32 t404.re t404.im, .complex .f32 t405.re t405.im]) (j := 0) hcl23 hcc23 (show 3 ≤ 3 from by decide) (x' := (⟨t403, t404, t405⟩ : S39)) (k39_mkM _ _ _ (⟨t403, t404, t405⟩ : S39) ) (fun _ hk => hk)).1
         rw [← Ny406.out] at HP23
         have HQ23 := Aside0.mk HP23
         clear hcl23 hcc23 hfr23 hM23 HP23
         refine hK.out _ _ ⟨HS0_, HS1_, HS2_, HS3_, HS4_, HS5_⟩ (fun hHeld => ?_)
         clear hK K
         refine norm_ (a' := ?_) ?_ ?_
         rotate_left
         ·show Act.put _ (some 47) _ = _
          refine ps_ ?_
          rfl
         refine pure_ (i := 11) (N := some 48) (v := ?_) (a' := ?_) #[true, true, true, true, true, true, true, true, true, true, true, true, false] rfl rfl (any_of HT_.out (by kernel_rfl)) (fun _ _ _ h => h) (Or.inl ⟨by rfl, ?_⟩) ?_ ?_
         rotate_left
         ·intro w'
          go_simp
          with_reducible rfl
         rotate_left
         ·refine ps_ ?_
          rfl
         refine last_ (i := 12) (N := none) #[true, true, true, true, true, true, true, true, true, true, true, true, true] rfl rfl (one_of HT_.out (by kernel_rfl)) (by decide) (fun K hK => ?_)
         refine skip_ (w1 := ?_) (by rfl) rfl ?_ ?_
         rotate_left
         ·go_simp
          rfl
         refine hK.out _ _ ?_
         clear hK K
         refine done_ (done_of HT_.out (by kernel_rfl)) ?_
         try go_wp2
         (try simp only [← hl7_1])
         go_roundg k1
         case measure => have := HK1.out; omega
         case rel => exact ⟨(y406), (wrap64 (x8_1 - 1)), rs_, H', ⟨by have := HK1.out; omega⟩, ⟨by (try simp only [hl7_1]); refine ru ?_; exact HQ23.out⟩, ⟨by repeat (first | (with_reducible first | exact HI0.out | apply IsS42.alloc | apply IsS42.drewN | apply IsS42.drew | apply IsS42.set_0 | apply IsS42.set_1 | apply IsS42.set_2 | refine IsS42.far ?_ HN0_go11.out _ | refine IsS42.far ?_ HN0_go11.out _ | refine IsS42.far ?_ HN0_go11.out _) | exact HI0.out)⟩, ⟨by repeat (first | (with_reducible first | exact HK.out | apply KeepBut.set_ | apply keep_drewN | apply keep_drew | apply keep_alloc | refine keep_far ?_ GB11.out _ | refine keep_far ?_ GB11.out _ | refine keep_far ?_ GB11.out _) | exact HK.out)⟩, ⟨by repeat (first | (with_reducible first | exact HB.out | apply below_alloc | apply pw_below_drewN | apply below_drew1 | refine below_set ?_ (Nat.le_trans HL.out GB11.out) | refine below_set ?_ (Nat.le_trans HL.out GB11.out) | refine below_set ?_ (Nat.le_trans HL.out GB11.out) | refine below_set ?_ (IsS42.ge HI0.out)) | exact HB.out)⟩⟩
        ·rw [if_neg c14] at H
         exact absurd H (by simp)
       ·rw [if_neg c13] at H
        exact absurd H (by simp)
      ·rw [if_neg c12] at H
       exact absurd H (by simp)
     ·rw [if_neg c9] at H
      exact absurd H (by simp)
    ·rw [if_neg c8] at H
     exact absurd H (by simp)
   ·rw [if_neg c7] at H
    have c7b0 : decide (0 < x8_1) = false := decide_eq_false c7
    clear c7
    simp only [Option.some.injEq, Prod.mk.injEq] at H
    obtain ⟨rfl, rfl, rfl, rfl⟩ := H
    go_wp2
    go_ret
    exact ⟨_, re_, by refine ru ?_; exact HO_7.out, by have hi_ := HI0.out; exact IsS42.up, by have ge_ := IsS42.ge HI0.out; exact tb, by repeat (first | (with_reducible first | exact HK.out | apply KeepBut.set_ | apply keep_drewN | apply keep_drew | apply keep_alloc) | exact HK.out)⟩

end Go.Proofs.Ytcgpomicgbmdlaa.PFnBanks
namespace Go.Proofs.Ytcgpomicgbmdlaa.PFnBanks
open Go.RowKit Go.Proofs.YtcgpomicgbmdlaaW.PrintWords Go.Proofs.YtcgpomicgbmdlaaW.PrintLast Go.Proofs.YtcgpomicgbmdlaaW.PrintMore
attribute [local go_sem] max2_int min2_int max_two min_two max_three min_three max_four min_four   -- for this text's walks alone
set_option linter.unusedVariables false
set_option linter.unusedSimpArgs false

/-! ### impl_Feeder_forth_f82: function 132 -/
def impl_Feeder_forth_f82.l0 : Nat → List (S39) → List (S39) → Int → Cx → Cx → Cx → List (S66) → Option ((List (S39)) × Cx × Cx × Cx)
 | 0, _, _, _, _, _, _, _ => none
 | k + 1, x1, x7, x8, x1000, x1001, x1002, x1003 => if x8 < (x1003.length : Int) then (if 0 ≤ x8 then (if 0 ≤ ((rd_T66 x1003 x8).f0) then (if ((rd_T66 x1003 x8).f0) < (x7.length : Int) then (if x8 < (x1.length : Int) then ((impl_DropOf.f ((rd_T66 x1003 x8).f0) ((rd_T66 x1003 x8).f1) ((rd_T66 x1003 x8).f2) ((rd_T66 x1003 x8).f3) ((rd_T66 x1003 x8).f4.f0) ((rd_T66 x1003 x8).f4.f1) ((rd_T66 x1003 x8).f4.f2) ((rd_T66 x1003 x8).f5) ((rd_T39 x1 x8).f0) ((rd_T39 x1 x8).f1) ((rd_T39 x1 x8).f2)).bind fun bt414 => ((impl_LessPhases.f ((rd_T39 x7 ((rd_T66 x1003 x8).f0)).f0) ((rd_T39 x7 ((rd_T66 x1003 x8).f0)).f1) ((rd_T39 x7 ((rd_T66 x1003 x8).f0)).f2) bt414.1 bt414.2.1 bt414.2.2).bind fun bt417 => ((impl_same.f x8 bt417.1 bt417.2.1 bt417.2.2).bind fun bt420 => (if x7.length < 5864062014805 then (impl_Feeder_forth_f82.l0 k x1 (x7 ++ [(⟨bt420.1, bt420.2.1, bt420.2.2⟩ : S39)]) (wrap64 (x8 + 1)) x1000 x1001 x1002 x1003) else (none))))) else (none)) else (none)) else (none)) else (none)) else (some (x7, x1000, x1001, x1002))
def impl_Feeder_forth_f82.f (k : Nat) (s0_0 : Cx) (s0_1 : Cx) (s0_2 : Cx) (s0_3 : List (S66)) (l1 : List (S39))  : Option ((List (S39)) × Cx × Cx × Cx) := impl_Feeder_forth_f82.l0 k l1 (([(⟨s0_0, s0_1, s0_2⟩ : S39)] : List (S39))) 1 s0_0 s0_1 s0_2 s0_3
theorem impl_Feeder_forth_f82.mono_l : ∀ k, (∀ y0 y1 y2 y3 y4 y5 y6, LeO (impl_Feeder_forth_f82.l0 k y0 y1 y2 y3 y4 y5 y6) (impl_Feeder_forth_f82.l0 (k + 1) y0 y1 y2 y3 y4 y5 y6))
 | 0 => fun _ _ _ _ _ _ _ r h => by simp [impl_Feeder_forth_f82.l0] at h
 | k + 1 => by
  have ih0 := impl_Feeder_forth_f82.mono_l k
  ·intro y0 y1 y2 y3 y4 y5 y6
   unfold impl_Feeder_forth_f82.l0
   repeat' first
   | (with_reducible exact ih0 _ _ _ _ _ _ _)
   | (with_reducible exact LeO.refl _)
   | (with_reducible exact LeO.none _)
   | (with_reducible refine LeO.ite ?_ ?_)
   | (with_reducible refine LeO.bind ?_ (fun _ => ?_))
   | exact ih0 _ _ _ _ _ _ _
   | exact LeO.none _
   | refine LeO.ite ?_ ?_
   | refine LeO.bind ?_ (fun _ => ?_)
theorem impl_Feeder_forth_f82.mono : ∀ a0 a1 a2 a3 a4 k, LeO (impl_Feeder_forth_f82.f k a0 a1 a2 a3 a4) (impl_Feeder_forth_f82.f (k + 1) a0 a1 a2 a3 a4) := by
 intro a0 a1 a2 a3 a4 k
 have ih0 := impl_Feeder_forth_f82.mono_l k
 unfold impl_Feeder_forth_f82.f
 repeat' first
   | (with_reducible exact ih0 _ _ _ _ _ _ _)
   | (with_reducible exact LeO.refl _)
   | (with_reducible exact LeO.none _)
   | (with_reducible refine LeO.ite ?_ ?_)
   | (with_reducible refine LeO.bind ?_ (fun _ => ?_))
   | exact ih0 _ _ _ _ _ _ _
   | exact LeO.none _
   | refine LeO.ite ?_ ?_
   | refine LeO.bind ?_ (fun _ => ?_)
def impl_Feeder_forth_f82.T6 : Bool × List (List Nat × List Nat) := (true, [([], []), ([], []), ([], []), ([], []), ([], []), ([4], [4]), ([3, 5], [3, 5]), ([6], [6]), ([], []), ([], []), ([], []), ([9, 10], [9, 10]), ([11], [11]), ([8, 12], [8, 12]), ([7, 13, 13], [7, 13]), ([1, 2, 14, 14], [1, 2, 14]), ([15], [15]), ([0, 16, 15], [0, 16]), ([17, 17, 0, 1, 2, 3, 4, 5, 6, 7, 8, 9, 10, 11, 12, 13, 14, 15, 16, 17], [0, 3, 17])])
def impl_Feeder_forth_f82.B6 : List Nat := [0, 0, 0, 0, 0, 16, 56, 120, 0, 0, 0, 1536, 3584, 7936, 16376, 32766, 65534, 131071, 262143]
theorem impl_Feeder_forth_f82.tab6 : rtab .any (opsOf Try.f132 6) = impl_Feeder_forth_f82.T6 := by kernel_rfl
theorem impl_Feeder_forth_f82.bits6 : waitsOk impl_Feeder_forth_f82.T6.2 impl_Feeder_forth_f82.B6 = true := by kernel_rfl
set_option maxHeartbeats 8000000 in
set_option maxRecDepth 100000 in
theorem impl_Feeder_forth_f82.calls (k : Nat) (g : Nat) (s0_0 : Cx) (s0_1 : Cx) (s0_2 : Cx) (s0_3 : List (S66)) (A1 : Option Addr) (c1 : Nat) (l1 : List (S39))  (r1 : List (S39)) (r2 : Cx) (r3 : Cx) (r4 : Cx) (w0 w : World) (hI : IsS42 w0 w g s0_0 s0_1 s0_2 s0_3) (hB : Below w0.heap.size w0 w) (hr1 : ∀ W_, KeepBut w W_ g none → Kd.C k39 W_ A1 l1.length l1) (hc1 : l1.length ≤ c1) (h : impl_Feeder_forth_f82.f k s0_0 s0_1 s0_2 s0_3 l1 = some (r1, r2, r3, r4)) :
  Calls Try.prog 132 #[.pointer (some ⟨g, 0, none⟩), .slice A1 l1.length c1, .func (.func 82) #[] #[]] w fun e w' => ∃ v0_ : Value, e = .returned (v0_) ∧ Kd.R k39 39 w' w.heap.size (fun _ => True) v0_ r1 ∧ IsS42 w0 w' g r2 r3 r4 s0_3 ∧ Below w0.heap.size w0 w' ∧ KeepBut w w' g none := by
 have hu39 := Try.underlying39
 have hu66 := Try.underlying66
 have HR1 := Aside0.mk hr1
 have HC1 := Aside0.mk hc1
 clear hr1 hc1
 have HI0 := Aside0.mk hI
 have HK := Aside0.mk (KeepBut.refl w g none)
 have HL := Aside0.mk hB.size
 clear hI
 have HW0 := Aside0.mk hB.size
 have HB := Aside0.mk hB
 clear hB
 have H : (impl_Feeder_forth_f82.l0 k l1 (([(⟨s0_0, s0_1, s0_2⟩ : S39)] : List (S39))) 1 s0_0 s0_1 s0_2 s0_3) = some (r1, r2, r3, r4) := h
 clear h
 obtain ⟨y407, hy407⟩ : ∃ y_ : List (S39), y_ = (([(⟨s0_0, s0_1, s0_2⟩ : S39)] : List (S39))) := ⟨_, rfl⟩
 replace H : (impl_Feeder_forth_f82.l0 k l1 y407 1 s0_0 s0_1 s0_2 s0_3) = some (r1, r2, r3, r4) := by first | (rw [hy407]; with_reducible exact H) | (have H2_ := (Option.bind_some _ _).symm.trans H; rw [hy407]; with_reducible exact H2_) | (have H2_ := (Option.bind_some _ _).symm.trans H; with_reducible exact H2_) | with_reducible exact H | (rw [hy407]; exact H) | exact H
 have Ny407 := Aside0.mk hy407
 clear hy407
 have H' := Aside0.mk H
 clear H
 obtain ⟨ASz4_3, cSz4_3, HGz4, hgz4, HSz4_3, HLz4_3⟩ := HI0.out
 have hcz4_0 := cellS42_0 HGz4
 have hcz4_1 := cellS42_1 HGz4
 have hcz4_2 := cellS42_2 HGz4
 have hcz4_3 := cellS42_3 HGz4
 have hfz4_0 := blk_frozen HGz4 0
 have hfz4_1 := blk_frozen HGz4 1
 have hfz4_2 := blk_frozen HGz4 2
 clear HGz4 hgz4
 go_enter Try.func132, Try.ntmps132
 go_wp2_with (first | ((with_reducible refine gate_dst (N := 14) rfl ?_); refine Kd.R_lit k39 _ 39 ?hg (N := 14) ?hd (xs := ([(⟨s0_0, s0_1, s0_2⟩ : S39)] : List (S39))) (inner := [.complex .f32 s0_0.re s0_0.im, .complex .f32 s0_1.re s0_1.im, .complex .f32 s0_2.re s0_2.im]) (ok := fun _ => True) (okp := fun _ => True) ?hr ?hp (fun _ hk => hk) trivial (Below.refl _ _) (Nat.le_refl _) (by simp) ?_; (case hd => rfl); (case hg => rfl); (case hr => first | (go_simp; done) | (go_simp; rfl)); (case hp => exact (Reps.c3 (show Kd.M k39 _ _ _ (⟨s0_0, s0_1, s0_2⟩ : S39) [.complex .f32 s0_0.re s0_0.im, .complex .f32 s0_1.re s0_1.im, .complex .f32 s0_2.re s0_2.im] from (k39_mkM _ _ _ (⟨s0_0, s0_1, s0_2⟩ : S39) )) (Reps.none _ _))); intro v408 w5 ho6 hb hg_ hnew_; clear hg_ hnew_; (first | rw [← Ny407.out] at ho6 | (simp only [Int.reduceToNat] at ho6; rw [← Ny407.out] at ho6)); have n0_ := Aside0.mk (Kd.R_lower ho6 (keep_size (w := w) (g := g) (row := none) (by repeat (first | (with_reducible first | exact HK.out | apply KeepBut.set_ | apply keep_drewN | apply keep_drew | apply keep_alloc) | exact HK.out)))); have n1_ := Aside0.mk (IsS42.below (by have hi_ := HI0.out; exact IsS42.up) hb); have n2_ := Aside0.mk (KeepBut.trans (by repeat (first | (with_reducible first | exact HK.out | apply KeepBut.set_ | apply keep_drewN | apply keep_drew | apply keep_alloc) | exact HK.out)) (KeepBut.of_below hb g none) (.inl rfl)); have n3_ := Aside0.mk (below_step (by have ge_ := IsS42.ge HI0.out; exact tb) hb); clear HI0; clear HK; clear HB; have HO409 := n0_; have HI0 := n1_; have HK := n2_; have HB := n3_; clear n0_ n1_ n2_ n3_; clear hb ho6))
 go_loopg [7, 8] k (fun kq v7 v8 w' => ∃ (x7_1 : List (S39)) (x8_1 : Int), v8 = .int .i64 x8_1 ∧ Aside0 (impl_Feeder_forth_f82.l0 kq l1 x7_1 x8_1 s0_0 s0_1 s0_2 s0_3 = some (r1, r2, r3, r4)) ∧ Aside0 (kq ≤ k) ∧ Aside0 (Kd.R k39 39 w' w.heap.size (fun _ => True) v7 x7_1) ∧ Aside0 (IsS42 w0 w' g s0_0 s0_1 s0_2 s0_3) ∧ Aside0 (KeepBut w w' g none) ∧ Aside0 (Below w0.heap.size w0 w'))
 case atStart => exact ⟨(y407), (1), rs_, H', ⟨Nat.le_refl _⟩, ⟨by refine ru ?_; exact HO409.out⟩, ⟨by have hi_ := HI0.out; exact IsS42.up⟩, ⟨by repeat (first | (with_reducible first | exact HK.out | apply KeepBut.set_ | apply keep_drewN | apply keep_drew | apply keep_alloc) | exact HK.out)⟩, ⟨by have ge_ := IsS42.ge HI0.out; exact tb⟩⟩
 case round =>
  clear H'
  try clear c1
  try clear p2
  try clear c3
  try clear hcz4_0
  try clear hcz4_1
  try clear hcz4_2
  try clear hcz4_3
  try clear hfz4_0
  try clear hfz4_1
  try clear hfz4_2
  obtain ⟨x7_1, x8_1, rfl, HA, HK1, HO_7, HI0, HK, HB⟩ := hrel
  cases gk with
  | zero => exact absurd HA.out (by simp [impl_Feeder_forth_f82.l0])
  | succ k1 =>
   have H := HA.out
   clear HA
   simp only [impl_Feeder_forth_f82.l0] at H
   by_cases c7 : x8_1 < (s0_3.length : Int)
   ·rw [if_pos c7] at H
    have c7b0 : decide (x8_1 < (s0_3.length : Int)) = true := decide_eq_true c7
    clear c7
    by_cases c8 : 0 ≤ x8_1
    ·rw [if_pos c8] at H
     have c8b0 : decide (0 ≤ x8_1) = true := decide_eq_true c8
     clear c8
     by_cases c9 : 0 ≤ ((rd_T66 s0_3 x8_1).f0)
     ·rw [if_pos c9] at H
      have c9b0 : decide (0 ≤ ((rd_T66 s0_3 x8_1).f0)) = true := decide_eq_true c9
      clear c9
      by_cases c10 : ((rd_T66 s0_3 x8_1).f0) < (x7_1.length : Int)
      ·rw [if_pos c10] at H
       have c10b0 : decide (((rd_T66 s0_3 x8_1).f0) < (x7_1.length : Int)) = true := decide_eq_true c10
       clear c10
       by_cases c11 : x8_1 < (l1.length : Int)
       ·rw [if_pos c11] at H
        have c11b0 : decide (x8_1 < (l1.length : Int)) = true := decide_eq_true c11
        clear c11
        replace H := Option.bind_eq_some_iff.mp H
        obtain ⟨⟨t414, t415, t416⟩, A120, H⟩ := H
        try dsimp only at H
        have A12 := Aside0.mk A120
        clear A120
        replace H := Option.bind_eq_some_iff.mp H
        obtain ⟨⟨t417, t418, t419⟩, A130, H⟩ := H
        try dsimp only at H
        have A13 := Aside0.mk A130
        clear A130
        replace H := Option.bind_eq_some_iff.mp H
        obtain ⟨⟨t420, t421, t422⟩, A140, H⟩ := H
        try dsimp only at H
        have A14 := Aside0.mk A140
        clear A140
        by_cases c15 : x7_1.length < 5864062014805
        ·rw [if_pos c15] at H
         have LMc15 := Aside0.mk c15
         clear c15
         obtain ⟨y423, hy423⟩ : ∃ y_ : List (S39), y_ = (x7_1 ++ [(⟨t420, t421, t422⟩ : S39)]) := ⟨_, rfl⟩
         replace H : (impl_Feeder_forth_f82.l0 k1 l1 y423 (wrap64 (x8_1 + 1)) s0_0 s0_1 s0_2 s0_3) = some (r1, r2, r3, r4) := by first | (rw [hy423]; with_reducible exact H) | (have H2_ := (Option.bind_some _ _).symm.trans H; rw [hy423]; with_reducible exact H2_) | (have H2_ := (Option.bind_some _ _).symm.trans H; with_reducible exact H2_) | with_reducible exact H | (rw [hy423]; exact H) | exact H
         have Ny423 := Aside0.mk hy423
         clear hy423
         have H' := Aside0.mk H
         clear H
         obtain ⟨ASz16_3, cSz16_3, HGz16, hgz16, HSz16_3, HLz16_3⟩ := HI0.out
         have hcz16_0 := cellS42_0 HGz16
         have hcz16_1 := cellS42_1 HGz16
         have hcz16_2 := cellS42_2 HGz16
         have hcz16_3 := cellS42_3 HGz16
         have hfz16_0 := blk_frozen HGz16 0
         have hfz16_1 := blk_frozen HGz16 1
         have hfz16_2 := blk_frozen HGz16 2
         clear HGz16 hgz16
         have p410 : 0 ≤ (x8_1 : Int) := of_decide_eq_true (by first | (with_reducible assumption) | assumption)
         have q410 : x8_1 < (s0_3.length : Int) := of_decide_eq_true (by first | (with_reducible assumption) | assumption)
         obtain ⟨ad410, e410, hx410_0, hx410_1, hx410_2, hx410_3, hx410_4, hx410_5, hx410_6, hx410_7⟩ := at_T66 HSz16_3 x8_1 p410 q410
         cases e410
         replace hx410_0 := pw_cell_below HB.out hx410_0
         replace hx410_1 := pw_cell_below HB.out hx410_1
         replace hx410_2 := pw_cell_below HB.out hx410_2
         replace hx410_3 := pw_cell_below HB.out hx410_3
         replace hx410_4 := pw_cell_below HB.out hx410_4
         replace hx410_5 := pw_cell_below HB.out hx410_5
         replace hx410_6 := pw_cell_below HB.out hx410_6
         replace hx410_7 := pw_cell_below HB.out hx410_7
         replace p410 := eq_true p410
         replace q410 := eq_true q410
         try go_wp2_with (first | ((with_reducible refine gate_dst (N := 9) rfl ?_); refine box_event ?hg (N := 9) ?hd (cs := #[.int .i64 0, .complex .f32 0 0, .complex .f32 0 0, .int .i64 0, .complex .f32 0 0, .complex .f32 0 0, .complex .f32 0 0, .int .i64 0]) (t := 66) ?hr ?_; (case hd => rfl); (case hg => rfl); (case hr => first | (go_simp; done) | (go_simp; rfl)); intro gb411 hg w17 hbox hb; have n0_ := Aside0.mk (Kd.R_below (ru HO_7.out) hb); have n1_ := Aside0.mk (IsS42.below (by have hi_ := HI0.out; exact IsS42.up) hb); have n2_ := Aside0.mk (KeepBut.trans (by repeat (first | (with_reducible first | exact HK.out | apply KeepBut.set_ | apply keep_drewN | apply keep_drew | apply keep_alloc) | exact HK.out)) (KeepBut.of_below hb g none) (.inl rfl)); have n3_ := Aside0.mk (below_step (by have ge_ := IsS42.ge HI0.out; exact tb) hb); have n4_ := Aside0.mk (hbox); have n5_ := Aside0.mk ((by rw [hg]; exact (keep_size (w := w) (g := g) (row := none) (by repeat (first | (with_reducible first | exact HK.out | apply KeepBut.set_ | apply keep_drewN | apply keep_drew | apply keep_alloc) | exact HK.out))) : w.heap.size ≤ gb411)); have n6_ := Aside0.mk ((Nat.le_trans HW0.out (by rw [hg]; exact (keep_size (w := w) (g := g) (row := none) (by repeat (first | (with_reducible first | exact HK.out | apply KeepBut.set_ | apply keep_drewN | apply keep_drew | apply keep_alloc) | exact HK.out))) : w.heap.size ≤ gb411) : w0.heap.size ≤ gb411)); have n7_ := Aside0.mk ((by rw [hg]; exact Nat.ne_of_lt (IsS42.lt (show IsS42 w0 _ g s0_0 s0_1 s0_2 s0_3 from by have hi_ := HI0.out; exact IsS42.up)) : g ≠ gb411)); have n8_ := Aside0.mk ((by rw [hg]; exact Nat.ne_of_gt (IsS42.lt (show IsS42 w0 _ g s0_0 s0_1 s0_2 s0_3 from by have hi_ := HI0.out; exact IsS42.up)) : gb411 ≠ g)); clear HO_7; clear HI0; clear HK; clear HB; have HO_7 := n0_; have HI0 := n1_; have HK := n2_; have HB := n3_; have BK411 := n4_; have GW411 := n5_; have GE411 := n6_; have NB0_411 := n7_; have NB411_0 := n8_; clear n0_ n1_ n2_ n3_ n4_ n5_ n6_ n7_ n8_; clear hb hbox hg; have hnb18 := NB411_0.out; have hnc18 := NB0_411.out; have hcz19_0 : w17.cell? ⟨gb411, 0, none⟩ = some (.int .i64 0) := (blk_cell BK411.out 0).trans rfl; have hcz19_1 : w17.cell? ⟨gb411, 1, none⟩ = some (.complex .f32 0 0) := (blk_cell BK411.out 1).trans rfl; have hcz19_2 : w17.cell? ⟨gb411, 2, none⟩ = some (.complex .f32 0 0) := (blk_cell BK411.out 2).trans rfl; have hcz19_3 : w17.cell? ⟨gb411, 3, none⟩ = some (.int .i64 0) := (blk_cell BK411.out 3).trans rfl; have hcz19_4 : w17.cell? ⟨gb411, 4, none⟩ = some (.complex .f32 0 0) := (blk_cell BK411.out 4).trans rfl; have hcz19_5 : w17.cell? ⟨gb411, 5, none⟩ = some (.complex .f32 0 0) := (blk_cell BK411.out 5).trans rfl; have hcz19_6 : w17.cell? ⟨gb411, 6, none⟩ = some (.complex .f32 0 0) := (blk_cell BK411.out 6).trans rfl; have hcz19_7 : w17.cell? ⟨gb411, 7, none⟩ = some (.int .i64 0) := (blk_cell BK411.out 7).trans rfl; have hfz19_0 := blk_frozen BK411.out 0; have hfz19_1 := blk_frozen BK411.out 1; have hfz19_2 := blk_frozen BK411.out 2; have hfz19_3 := blk_frozen BK411.out 3; have hfz19_4 := blk_frozen BK411.out 4; have hfz19_5 := blk_frozen BK411.out 5; have hfz19_6 := blk_frozen BK411.out 6; have hfz19_7 := blk_frozen BK411.out 7))
         have n0_ : Aside0 (Kd.R k39 39 ((((((((w17.setCell ⟨gb411, 0, none⟩ (.int .i64 ((rd_T66 s0_3 x8_1).f0))).setCell ⟨gb411, 1, none⟩ (.complex .f32 (((rd_T66 s0_3 x8_1).f1).re) (((rd_T66 s0_3 x8_1).f1).im))).setCell ⟨gb411, 2, none⟩ (.complex .f32 (((rd_T66 s0_3 x8_1).f2).re) (((rd_T66 s0_3 x8_1).f2).im))).setCell ⟨gb411, 3, none⟩ (.int .i64 ((rd_T66 s0_3 x8_1).f3))).setCell ⟨gb411, 4, none⟩ (.complex .f32 (((rd_T66 s0_3 x8_1).f4.f0).re) (((rd_T66 s0_3 x8_1).f4.f0).im))).setCell ⟨gb411, 5, none⟩ (.complex .f32 (((rd_T66 s0_3 x8_1).f4.f1).re) (((rd_T66 s0_3 x8_1).f4.f1).im))).setCell ⟨gb411, 6, none⟩ (.complex .f32 (((rd_T66 s0_3 x8_1).f4.f2).re) (((rd_T66 s0_3 x8_1).f4.f2).im))).setCell ⟨gb411, 7, none⟩ (.int .i64 ((rd_T66 s0_3 x8_1).f5))) w.heap.size (fun _ => True) u7 x7_1) := ⟨by refine ru ?_; exact Kd.R_mono (Kd.R_far (p := ⟨gb411, 7, none⟩) (Kd.R_far (p := ⟨gb411, 6, none⟩) (Kd.R_far (p := ⟨gb411, 5, none⟩) (Kd.R_far (p := ⟨gb411, 4, none⟩) (Kd.R_far (p := ⟨gb411, 3, none⟩) (Kd.R_far (p := ⟨gb411, 2, none⟩) (Kd.R_far (p := ⟨gb411, 1, none⟩) (Kd.R_far (p := ⟨gb411, 0, none⟩) (Kd.R_types HO_7.out BK411.out (by decide)) (fun _ hk => hk.2) (.int .i64 ((rd_T66 s0_3 x8_1).f0))) (fun _ hk => hk.2) (.complex .f32 (((rd_T66 s0_3 x8_1).f1).re) (((rd_T66 s0_3 x8_1).f1).im))) (fun _ hk => hk.2) (.complex .f32 (((rd_T66 s0_3 x8_1).f2).re) (((rd_T66 s0_3 x8_1).f2).im))) (fun _ hk => hk.2) (.int .i64 ((rd_T66 s0_3 x8_1).f3))) (fun _ hk => hk.2) (.complex .f32 (((rd_T66 s0_3 x8_1).f4.f0).re) (((rd_T66 s0_3 x8_1).f4.f0).im))) (fun _ hk => hk.2) (.complex .f32 (((rd_T66 s0_3 x8_1).f4.f1).re) (((rd_T66 s0_3 x8_1).f4.f1).im))) (fun _ hk => hk.2) (.complex .f32 (((rd_T66 s0_3 x8_1).f4.f2).re) (((rd_T66 s0_3 x8_1).f4.f2).im))) (fun _ hk => hk.2) (.int .i64 ((rd_T66 s0_3 x8_1).f5))) (fun _ hk => trivial)⟩
         have n1_ : Aside0 (((((((((w17.setCell ⟨gb411, 0, none⟩ (.int .i64 ((rd_T66 s0_3 x8_1).f0))).setCell ⟨gb411, 1, none⟩ (.complex .f32 (((rd_T66 s0_3 x8_1).f1).re) (((rd_T66 s0_3 x8_1).f1).im))).setCell ⟨gb411, 2, none⟩ (.complex .f32 (((rd_T66 s0_3 x8_1).f2).re) (((rd_T66 s0_3 x8_1).f2).im))).setCell ⟨gb411, 3, none⟩ (.int .i64 ((rd_T66 s0_3 x8_1).f3))).setCell ⟨gb411, 4, none⟩ (.complex .f32 (((rd_T66 s0_3 x8_1).f4.f0).re) (((rd_T66 s0_3 x8_1).f4.f0).im))).setCell ⟨gb411, 5, none⟩ (.complex .f32 (((rd_T66 s0_3 x8_1).f4.f1).re) (((rd_T66 s0_3 x8_1).f4.f1).im))).setCell ⟨gb411, 6, none⟩ (.complex .f32 (((rd_T66 s0_3 x8_1).f4.f2).re) (((rd_T66 s0_3 x8_1).f4.f2).im))).setCell ⟨gb411, 7, none⟩ (.int .i64 ((rd_T66 s0_3 x8_1).f5))).heap[gb411]? = some (.cells #[.int .i64 ((rd_T66 s0_3 x8_1).f0), .complex .f32 (((rd_T66 s0_3 x8_1).f1).re) (((rd_T66 s0_3 x8_1).f1).im), .complex .f32 (((rd_T66 s0_3 x8_1).f2).re) (((rd_T66 s0_3 x8_1).f2).im), .int .i64 ((rd_T66 s0_3 x8_1).f3), .complex .f32 (((rd_T66 s0_3 x8_1).f4.f0).re) (((rd_T66 s0_3 x8_1).f4.f0).im), .complex .f32 (((rd_T66 s0_3 x8_1).f4.f1).re) (((rd_T66 s0_3 x8_1).f4.f1).im), .complex .f32 (((rd_T66 s0_3 x8_1).f4.f2).re) (((rd_T66 s0_3 x8_1).f4.f2).im), .int .i64 ((rd_T66 s0_3 x8_1).f5)] 66 (0, 0))) := ⟨by refine bu ?_; refine blk_put (cs := #[.int .i64 ((rd_T66 s0_3 x8_1).f0), .complex .f32 (((rd_T66 s0_3 x8_1).f1).re) (((rd_T66 s0_3 x8_1).f1).im), .complex .f32 (((rd_T66 s0_3 x8_1).f2).re) (((rd_T66 s0_3 x8_1).f2).im), .int .i64 ((rd_T66 s0_3 x8_1).f3), .complex .f32 (((rd_T66 s0_3 x8_1).f4.f0).re) (((rd_T66 s0_3 x8_1).f4.f0).im), .complex .f32 (((rd_T66 s0_3 x8_1).f4.f1).re) (((rd_T66 s0_3 x8_1).f4.f1).im), .complex .f32 (((rd_T66 s0_3 x8_1).f4.f2).re) (((rd_T66 s0_3 x8_1).f4.f2).im), .int .i64 0]) ?_ 7 _ rfl; refine bu ?_; refine blk_put (cs := #[.int .i64 ((rd_T66 s0_3 x8_1).f0), .complex .f32 (((rd_T66 s0_3 x8_1).f1).re) (((rd_T66 s0_3 x8_1).f1).im), .complex .f32 (((rd_T66 s0_3 x8_1).f2).re) (((rd_T66 s0_3 x8_1).f2).im), .int .i64 ((rd_T66 s0_3 x8_1).f3), .complex .f32 (((rd_T66 s0_3 x8_1).f4.f0).re) (((rd_T66 s0_3 x8_1).f4.f0).im), .complex .f32 (((rd_T66 s0_3 x8_1).f4.f1).re) (((rd_T66 s0_3 x8_1).f4.f1).im), .complex .f32 0 0, .int .i64 0]) ?_ 6 _ rfl; refine bu ?_; refine blk_put (cs := #[.int .i64 ((rd_T66 s0_3 x8_1).f0), .complex .f32 (((rd_T66 s0_3 x8_1).f1).re) (((rd_T66 s0_3 x8_1).f1).im), .complex .f32 (((rd_T66 s0_3 x8_1).f2).re) (((rd_T66 s0_3 x8_1).f2).im), .int .i64 ((rd_T66 s0_3 x8_1).f3), .complex .f32 (((rd_T66 s0_3 x8_1).f4.f0).re) (((rd_T66 s0_3 x8_1).f4.f0).im), .complex .f32 0 0, .complex .f32 0 0, .int .i64 0]) ?_ 5 _ rfl; refine bu ?_; refine blk_put (cs := #[.int .i64 ((rd_T66 s0_3 x8_1).f0), .complex .f32 (((rd_T66 s0_3 x8_1).f1).re) (((rd_T66 s0_3 x8_1).f1).im), .complex .f32 (((rd_T66 s0_3 x8_1).f2).re) (((rd_T66 s0_3 x8_1).f2).im), .int .i64 ((rd_T66 s0_3 x8_1).f3), .complex .f32 0 0, .complex .f32 0 0, .complex .f32 0 0, .int .i64 0]) ?_ 4 _ rfl; refine bu ?_; refine blk_put (cs := #[.int .i64 ((rd_T66 s0_3 x8_1).f0), .complex .f32 (((rd_T66 s0_3 x8_1).f1).re) (((rd_T66 s0_3 x8_1).f1).im), .complex .f32 (((rd_T66 s0_3 x8_1).f2).re) (((rd_T66 s0_3 x8_1).f2).im), .int .i64 0, .complex .f32 0 0, .complex .f32 0 0, .complex .f32 0 0, .int .i64 0]) ?_ 3 _ rfl; refine bu ?_; refine blk_put (cs := #[.int .i64 ((rd_T66 s0_3 x8_1).f0), .complex .f32 (((rd_T66 s0_3 x8_1).f1).re) (((rd_T66 s0_3 x8_1).f1).im), .complex .f32 0 0, .int .i64 0, .complex .f32 0 0, .complex .f32 0 0, .complex .f32 0 0, .int .i64 0]) ?_ 2 _ rfl; refine bu ?_; refine blk_put (cs := #[.int .i64 ((rd_T66 s0_3 x8_1).f0), .complex .f32 0 0, .complex .f32 0 0, .int .i64 0, .complex .f32 0 0, .complex .f32 0 0, .complex .f32 0 0, .int .i64 0]) ?_ 1 _ rfl; refine bu ?_; refine blk_put (cs := #[.int .i64 0, .complex .f32 0 0, .complex .f32 0 0, .int .i64 0, .complex .f32 0 0, .complex .f32 0 0, .complex .f32 0 0, .int .i64 0]) ?_ 0 _ rfl; refine bu ?_; exact BK411.out⟩
         have n2_ : Aside0 (IsS42 w0 ((((((((w17.setCell ⟨gb411, 0, none⟩ (.int .i64 ((rd_T66 s0_3 x8_1).f0))).setCell ⟨gb411, 1, none⟩ (.complex .f32 (((rd_T66 s0_3 x8_1).f1).re) (((rd_T66 s0_3 x8_1).f1).im))).setCell ⟨gb411, 2, none⟩ (.complex .f32 (((rd_T66 s0_3 x8_1).f2).re) (((rd_T66 s0_3 x8_1).f2).im))).setCell ⟨gb411, 3, none⟩ (.int .i64 ((rd_T66 s0_3 x8_1).f3))).setCell ⟨gb411, 4, none⟩ (.complex .f32 (((rd_T66 s0_3 x8_1).f4.f0).re) (((rd_T66 s0_3 x8_1).f4.f0).im))).setCell ⟨gb411, 5, none⟩ (.complex .f32 (((rd_T66 s0_3 x8_1).f4.f1).re) (((rd_T66 s0_3 x8_1).f4.f1).im))).setCell ⟨gb411, 6, none⟩ (.complex .f32 (((rd_T66 s0_3 x8_1).f4.f2).re) (((rd_T66 s0_3 x8_1).f4.f2).im))).setCell ⟨gb411, 7, none⟩ (.int .i64 ((rd_T66 s0_3 x8_1).f5))) g s0_0 s0_1 s0_2 s0_3) := ⟨by have hi_ := HI0.out; exact IsS42.up⟩
         have n3_ : Aside0 (KeepBut w ((((((((w17.setCell ⟨gb411, 0, none⟩ (.int .i64 ((rd_T66 s0_3 x8_1).f0))).setCell ⟨gb411, 1, none⟩ (.complex .f32 (((rd_T66 s0_3 x8_1).f1).re) (((rd_T66 s0_3 x8_1).f1).im))).setCell ⟨gb411, 2, none⟩ (.complex .f32 (((rd_T66 s0_3 x8_1).f2).re) (((rd_T66 s0_3 x8_1).f2).im))).setCell ⟨gb411, 3, none⟩ (.int .i64 ((rd_T66 s0_3 x8_1).f3))).setCell ⟨gb411, 4, none⟩ (.complex .f32 (((rd_T66 s0_3 x8_1).f4.f0).re) (((rd_T66 s0_3 x8_1).f4.f0).im))).setCell ⟨gb411, 5, none⟩ (.complex .f32 (((rd_T66 s0_3 x8_1).f4.f1).re) (((rd_T66 s0_3 x8_1).f4.f1).im))).setCell ⟨gb411, 6, none⟩ (.complex .f32 (((rd_T66 s0_3 x8_1).f4.f2).re) (((rd_T66 s0_3 x8_1).f4.f2).im))).setCell ⟨gb411, 7, none⟩ (.int .i64 ((rd_T66 s0_3 x8_1).f5))) g none) := ⟨by repeat (first | (with_reducible first | exact HK.out | apply KeepBut.set_ | apply keep_drewN | apply keep_drew | apply keep_alloc | refine keep_far ?_ GW411.out _) | exact HK.out)⟩
         have n4_ : Aside0 (Below w0.heap.size w0 ((((((((w17.setCell ⟨gb411, 0, none⟩ (.int .i64 ((rd_T66 s0_3 x8_1).f0))).setCell ⟨gb411, 1, none⟩ (.complex .f32 (((rd_T66 s0_3 x8_1).f1).re) (((rd_T66 s0_3 x8_1).f1).im))).setCell ⟨gb411, 2, none⟩ (.complex .f32 (((rd_T66 s0_3 x8_1).f2).re) (((rd_T66 s0_3 x8_1).f2).im))).setCell ⟨gb411, 3, none⟩ (.int .i64 ((rd_T66 s0_3 x8_1).f3))).setCell ⟨gb411, 4, none⟩ (.complex .f32 (((rd_T66 s0_3 x8_1).f4.f0).re) (((rd_T66 s0_3 x8_1).f4.f0).im))).setCell ⟨gb411, 5, none⟩ (.complex .f32 (((rd_T66 s0_3 x8_1).f4.f1).re) (((rd_T66 s0_3 x8_1).f4.f1).im))).setCell ⟨gb411, 6, none⟩ (.complex .f32 (((rd_T66 s0_3 x8_1).f4.f2).re) (((rd_T66 s0_3 x8_1).f4.f2).im))).setCell ⟨gb411, 7, none⟩ (.int .i64 ((rd_T66 s0_3 x8_1).f5)))) := ⟨by have ge_ := IsS42.ge HI0.out; exact tb⟩
         (try clear HO_7)
         (try clear BK411)
         (try clear HI0)
         (try clear HK)
         (try clear HB)
         generalize ((((((((w17.setCell ⟨gb411, 0, none⟩ (.int .i64 ((rd_T66 s0_3 x8_1).f0))).setCell ⟨gb411, 1, none⟩ (.complex .f32 (((rd_T66 s0_3 x8_1).f1).re) (((rd_T66 s0_3 x8_1).f1).im))).setCell ⟨gb411, 2, none⟩ (.complex .f32 (((rd_T66 s0_3 x8_1).f2).re) (((rd_T66 s0_3 x8_1).f2).im))).setCell ⟨gb411, 3, none⟩ (.int .i64 ((rd_T66 s0_3 x8_1).f3))).setCell ⟨gb411, 4, none⟩ (.complex .f32 (((rd_T66 s0_3 x8_1).f4.f0).re) (((rd_T66 s0_3 x8_1).f4.f0).im))).setCell ⟨gb411, 5, none⟩ (.complex .f32 (((rd_T66 s0_3 x8_1).f4.f1).re) (((rd_T66 s0_3 x8_1).f4.f1).im))).setCell ⟨gb411, 6, none⟩ (.complex .f32 (((rd_T66 s0_3 x8_1).f4.f2).re) (((rd_T66 s0_3 x8_1).f4.f2).im))).setCell ⟨gb411, 7, none⟩ (.int .i64 ((rd_T66 s0_3 x8_1).f5))) = w20 at n0_ n1_ n2_ n3_ n4_ ⊢
         have HO_7 := n0_
         have BK411 := n1_
         have HI0 := n2_
         have HK := n3_
         have HB := n4_
         clear n0_ n1_ n2_ n3_ n4_
         have n0_ := Aside0.mk (Kd.R_drew HO_7.out)
         have n1_ := Aside0.mk (blk_drew BK411.out)
         have n2_ := Aside0.mk (IsS42.drew HI0.out)
         have n3_ := Aside0.mk (keep_drew HK.out)
         have n4_ := Aside0.mk (below_drew1 HB.out)
         clear HO_7
         clear BK411
         clear HI0
         clear HK
         clear HB
         have HO_7 := n0_
         have BK411 := n1_
         have HI0 := n2_
         have HK := n3_
         have HB := n4_
         clear n0_ n1_ n2_ n3_ n4_
         obtain ⟨Ao22, co22, eo22⟩ := Kd.R_slice HO_7.out
         (first | subst eo22 | (injection eo22 with f1_ f2_ f3_; have f4_ := f1_.symm; have f5_ := f3_.symm; clear f1_ f2_ f3_; subst f4_; subst f5_))
         have p412 : 0 ≤ (((rd_T66 s0_3 x8_1).f0) : Int) := of_decide_eq_true (by first | (with_reducible assumption) | assumption)
         have q412 : ((rd_T66 s0_3 x8_1).f0) < (x7_1.length : Int) := of_decide_eq_true (by first | (with_reducible assumption) | assumption)
         obtain ⟨ad412, e412, hx412_0, hx412_1, hx412_2⟩ := at_T39 (Kd.R_reads' HO_7.out).2.2 ((rd_T66 s0_3 x8_1).f0) p412 q412
         cases e412
         replace p412 := eq_true p412
         replace q412 := eq_true q412
         have p413 : 0 ≤ (x8_1 : Int) := of_decide_eq_true (by first | (with_reducible assumption) | assumption)
         have q413 : x8_1 < (l1.length : Int) := of_decide_eq_true (by first | (with_reducible assumption) | assumption)
         obtain ⟨ad413, e413, hx413_0, hx413_1, hx413_2⟩ := at_T39 (Kd.C_foot_now HR1.out HK.out) x8_1 p413 q413
         have hw413_2 := hx413_2
         have hw413_1 := hx413_1
         have hw413_0 := hx413_0
         cases e413
         have hne413_2 := (show (⟨(ad413.add ((x8_1).toNat * 3)).block, (ad413.add ((x8_1).toNat * 3)).off + 2, none⟩ : Addr).block ≠ g from by first | (rw [add_block]; exact Kd.foot_ne HR1.out (by omega) (by decide)) | (show (Addr.add _ _).block ≠ _; rw [add_block]; exact Kd.foot_ne HR1.out (by omega) (by decide)) | exact Kd.foot_ne HR1.out (by omega) (by decide) | (dsimp only; exact Kd.foot_ne HR1.out (by omega) (by decide)))
         have hlt413_2 := (Kd.foot_lt HR1.out (by omega) (by decide))
         have hne413_1 := (show (⟨(ad413.add ((x8_1).toNat * 3)).block, (ad413.add ((x8_1).toNat * 3)).off + 1, none⟩ : Addr).block ≠ g from by first | (rw [add_block]; exact Kd.foot_ne HR1.out (by omega) (by decide)) | (show (Addr.add _ _).block ≠ _; rw [add_block]; exact Kd.foot_ne HR1.out (by omega) (by decide)) | exact Kd.foot_ne HR1.out (by omega) (by decide) | (dsimp only; exact Kd.foot_ne HR1.out (by omega) (by decide)))
         have hlt413_1 := (Kd.foot_lt HR1.out (by omega) (by decide))
         have hne413_0 := (show ((ad413.add ((x8_1).toNat * 3)) : Addr).block ≠ g from by first | (rw [add_block]; exact Kd.foot_ne HR1.out (by omega) (by decide)) | (show (Addr.add _ _).block ≠ _; rw [add_block]; exact Kd.foot_ne HR1.out (by omega) (by decide)) | exact Kd.foot_ne HR1.out (by omega) (by decide) | (dsimp only; exact Kd.foot_ne HR1.out (by omega) (by decide)))
         have hlt413_0 := (Kd.foot_lt HR1.out (by omega) (by decide))
         replace p413 := eq_true p413
         replace q413 := eq_true q413
         refine start_ (n := 19) (S := fun w' => w'.cell? ⟨gb411, 0, none⟩ = some (.int .i64 ((rd_T66 s0_3 x8_1).f0)) ∧ w'.cell? ⟨gb411, 1, none⟩ = some (.complex .f32 (((rd_T66 s0_3 x8_1).f1).re) (((rd_T66 s0_3 x8_1).f1).im)) ∧ w'.cell? ⟨gb411, 2, none⟩ = some (.complex .f32 (((rd_T66 s0_3 x8_1).f2).re) (((rd_T66 s0_3 x8_1).f2).im)) ∧ w'.cell? ⟨gb411, 3, none⟩ = some (.int .i64 ((rd_T66 s0_3 x8_1).f3)) ∧ w'.cell? ⟨gb411, 4, none⟩ = some (.complex .f32 (((rd_T66 s0_3 x8_1).f4.f0).re) (((rd_T66 s0_3 x8_1).f4.f0).im)) ∧ w'.cell? ⟨gb411, 5, none⟩ = some (.complex .f32 (((rd_T66 s0_3 x8_1).f4.f1).re) (((rd_T66 s0_3 x8_1).f4.f1).im)) ∧ w'.cell? ⟨gb411, 6, none⟩ = some (.complex .f32 (((rd_T66 s0_3 x8_1).f4.f2).re) (((rd_T66 s0_3 x8_1).f4.f2).im)) ∧ w'.cell? ⟨gb411, 7, none⟩ = some (.int .i64 ((rd_T66 s0_3 x8_1).f5)) ∧ w'.cell? (ad412.add ((((rd_T66 s0_3 x8_1).f0)).toNat * 3)) = some (.complex .f32 (((rd_T39 x7_1 ((rd_T66 s0_3 x8_1).f0)).f0).re) (((rd_T39 x7_1 ((rd_T66 s0_3 x8_1).f0)).f0).im)) ∧ w'.cell? ⟨(ad412.add ((((rd_T66 s0_3 x8_1).f0)).toNat * 3)).block, (ad412.add ((((rd_T66 s0_3 x8_1).f0)).toNat * 3)).off + 1, none⟩ = some (.complex .f32 (((rd_T39 x7_1 ((rd_T66 s0_3 x8_1).f0)).f1).re) (((rd_T39 x7_1 ((rd_T66 s0_3 x8_1).f0)).f1).im)) ∧ w'.cell? ⟨(ad412.add ((((rd_T66 s0_3 x8_1).f0)).toNat * 3)).block, (ad412.add ((((rd_T66 s0_3 x8_1).f0)).toNat * 3)).off + 2, none⟩ = some (.complex .f32 (((rd_T39 x7_1 ((rd_T66 s0_3 x8_1).f0)).f2).re) (((rd_T39 x7_1 ((rd_T66 s0_3 x8_1).f0)).f2).im)) ∧ w'.cell? (ad413.add ((x8_1).toNat * 3)) = some (.complex .f32 (((rd_T39 l1 x8_1).f0).re) (((rd_T39 l1 x8_1).f0).im)) ∧ w'.cell? ⟨(ad413.add ((x8_1).toNat * 3)).block, (ad413.add ((x8_1).toNat * 3)).off + 1, none⟩ = some (.complex .f32 (((rd_T39 l1 x8_1).f1).re) (((rd_T39 l1 x8_1).f1).im)) ∧ w'.cell? ⟨(ad413.add ((x8_1).toNat * 3)).block, (ad413.add ((x8_1).toNat * 3)).off + 2, none⟩ = some (.complex .f32 (((rd_T39 l1 x8_1).f2).re) (((rd_T39 l1 x8_1).f2).im))) (ds := [16, 17]) #[false, false, false, false, false, false, false, false, false, false, false, false, false, false, false, false, false, false, false] (by kernel_rfl) rfl rfl ⟨(blk_cell BK411.out 0).trans rfl, (blk_cell BK411.out 1).trans rfl, (blk_cell BK411.out 2).trans rfl, (blk_cell BK411.out 3).trans rfl, (blk_cell BK411.out 4).trans rfl, (blk_cell BK411.out 5).trans rfl, (blk_cell BK411.out 6).trans rfl, (blk_cell BK411.out 7).trans rfl, hx412_0, hx412_1, hx412_2, hx413_0, hx413_1, hx413_2⟩ (fun hHeld => ?_); refine with_tabW impl_Feeder_forth_f82.tab6 impl_Feeder_forth_f82.bits6 (fun HT_ HW_ => ?_)
         generalize w20.drew = w21 at HO_7 BK411 HI0 HK HB hx412_0 hx412_1 hx412_2 hx413_0 hx413_1 hx413_2 hHeld ⊢
         refine pure_ (i := 0) (N := some 31) (v := ?_) (a' := ?_) #[true, false, false, false, false, false, false, false, false, false, false, false, false, false, false, false, false, false, false] rfl rfl (any_of HT_.out (by kernel_rfl)) (fun _ _ _ h => h) (Or.inl ⟨by rfl, ?_⟩) ?_ ?_
         rotate_left
         ·intro w'
          go_simp
          with_reducible rfl
         rotate_left
         ·refine ps_ ?_
          rfl
         refine pure_ (i := 1) (N := some 32) (v := ?_) (a' := ?_) #[true, true, false, false, false, false, false, false, false, false, false, false, false, false, false, false, false, false, false] rfl rfl (any_of HT_.out (by kernel_rfl)) (fun _ _ _ h => h) (Or.inl ⟨by rfl, ?_⟩) ?_ ?_
         rotate_left
         ·intro w'
          go_simp
          with_reducible rfl
         rotate_left
         ·refine ps_ ?_
          rfl
         refine pure_ (i := 2) (N := some 33) (v := ?_) (a' := ?_) #[true, true, true, false, false, false, false, false, false, false, false, false, false, false, false, false, false, false, false] rfl rfl (any_of HT_.out (by kernel_rfl)) (fun _ _ _ h => h) (Or.inl ⟨by rfl, ?_⟩) ?_ ?_
         rotate_left
         ·intro w'
          go_simp
          with_reducible rfl
         rotate_left
         ·refine ps_ ?_
          rfl
         refine pure_ (i := 3) (N := some 34) (v := ?_) (a' := ?_) #[true, true, true, true, false, false, false, false, false, false, false, false, false, false, false, false, false, false, false] rfl rfl (any_of HT_.out (by kernel_rfl)) (fun _ _ _ h => h) (Or.inl ⟨by rfl, ?_⟩) ?_ ?_
         rotate_left
         ·intro w'
          go_simp
          with_reducible rfl
         rotate_left
         ·refine ps_ ?_
          rfl
         refine pure_ (i := 4) (N := some 35) (v := ?_) (a' := ?_) #[true, true, true, true, true, false, false, false, false, false, false, false, false, false, false, false, false, false, false] rfl rfl (any_of HT_.out (by kernel_rfl)) (fun _ _ _ h => h) (Or.inl ⟨by rfl, ?_⟩) ?_ ?_
         rotate_left
         ·intro w'
          go_simp
          with_reducible rfl
         rotate_left
         ·refine ps_ ?_
          rfl
         refine pure_ (i := 9) (N := some 40) (v := ?_) (a' := ?_) #[true, true, true, true, true, false, false, false, false, true, false, false, false, false, false, false, false, false, false] rfl rfl (any_of HT_.out (by kernel_rfl)) (fun _ _ _ h => h) (Or.inl ⟨by rfl, ?_⟩) ?_ ?_
         rotate_left
         ·intro w'
          go_simp
          with_reducible rfl
         rotate_left
         ·refine ps_ ?_
          rfl
         refine pure_ (i := 10) (N := some 41) (v := ?_) (a' := ?_) #[true, true, true, true, true, false, false, false, false, true, true, false, false, false, false, false, false, false, false] rfl rfl (any_of HT_.out (by kernel_rfl)) (fun _ _ _ h => h) (Or.inl ⟨by rfl, ?_⟩) ?_ ?_
         rotate_left
         ·intro w'
          go_simp
          with_reducible rfl
         rotate_left
         ·refine ps_ ?_
          rfl
         refine pure_ (i := 11) (N := some 42) (v := ?_) (a' := ?_) #[true, true, true, true, true, false, false, false, false, true, true, true, false, false, false, false, false, false, false] rfl rfl (any_of HT_.out (by kernel_rfl)) (fun _ _ _ h => h) (Or.inl ⟨by rfl, ?_⟩) ?_ ?_
         rotate_left
         ·intro w'
          go_simp
          with_reducible rfl
         rotate_left
         ·refine ps_ ?_
          rfl
         refine take_ (i := 5) (N := some 36) (v := ?_) (a' := ?_) #[true, true, true, true, true, true, false, false, false, true, true, true, false, false, false, false, false, false, false] rfl rfl (take_ofW HT_.out HW_.out (by kernel_rfl)) (fun _ _ _ h => h) (Or.inl ⟨by rfl, ?_⟩) hHeld ?_ ?_
         rotate_left
         ·rintro w' ⟨s0, s1, s2, s3, s4, s5, s6, s7, s8, s9, s10, s11, s12, s13⟩
          go_simp
          with_reducible rfl
         rotate_left
         ·refine ps_ ?_
          rfl
         refine pure_ (i := 6) (N := some 37) (v := ?_) (a' := ?_) #[true, true, true, true, true, true, true, false, false, true, true, true, false, false, false, false, false, false, false] rfl rfl (any_of HT_.out (by kernel_rfl)) (fun _ _ _ h => h) (Or.inl ⟨by rfl, ?_⟩) ?_ ?_
         rotate_left
         ·intro w'
          go_simp
          with_reducible rfl
         rotate_left
         ·refine ps_ ?_
          rfl
         refine take_ (i := 7) (N := some 38) (v := ?_) (a' := ?_) #[true, true, true, true, true, true, true, true, false, true, true, true, false, false, false, false, false, false, false] rfl rfl (take_ofW HT_.out HW_.out (by kernel_rfl)) (fun _ _ _ h => h) (Or.inl ⟨by rfl, ?_⟩) hHeld ?_ ?_
         rotate_left
         ·rintro w' ⟨s0, s1, s2, s3, s4, s5, s6, s7, s8, s9, s10, s11, s12, s13⟩
          go_simp
          with_reducible rfl
         rotate_left
         ·refine ps_ ?_
          rfl
         refine take_ (i := 8) (N := some 39) (v := ?_) (a' := ?_) #[true, true, true, true, true, true, true, true, true, true, true, true, false, false, false, false, false, false, false] rfl rfl (take_ofW HT_.out HW_.out (by kernel_rfl)) (fun _ _ _ h => h) (Or.inl ⟨by rfl, ?_⟩) hHeld ?_ ?_
         rotate_left
         ·rintro w' ⟨s0, s1, s2, s3, s4, s5, s6, s7, s8, s9, s10, s11, s12, s13⟩
          go_simp
          with_reducible rfl
         rotate_left
         ·refine ps_ ?_
          rfl
         refine take_ (i := 12) (N := some 43) (v := ?_) (a' := ?_) #[true, true, true, true, true, true, true, true, true, true, true, true, true, false, false, false, false, false, false] rfl rfl (take_ofW HT_.out HW_.out (by kernel_rfl)) (fun _ _ _ h => h) (Or.inl ⟨by rfl, ?_⟩) hHeld ?_ ?_
         rotate_left
         ·rintro w' ⟨s0, s1, s2, s3, s4, s5, s6, s7, s8, s9, s10, s11, s12, s13⟩
          go_simp
          with_reducible rfl
         rotate_left
         ·refine ps_ ?_
          rfl
         refine one_ (i := 13) (N := some 44) #[true, true, true, true, true, true, true, true, true, true, true, true, true, true, false, false, false, false, false] rfl rfl (one_of HT_.out (by kernel_rfl)) (by decide) (fun K hK => ?_)
         refine goes_ Try.func151 (by kernel_rfl) rfl #[.agg #[.int .i64 ((rd_T66 s0_3 x8_1).f0), .complex .f32 (((rd_T66 s0_3 x8_1).f1).re) (((rd_T66 s0_3 x8_1).f1).im), .complex .f32 (((rd_T66 s0_3 x8_1).f2).re) (((rd_T66 s0_3 x8_1).f2).im), .int .i64 ((rd_T66 s0_3 x8_1).f3), .complex .f32 (((rd_T66 s0_3 x8_1).f4.f0).re) (((rd_T66 s0_3 x8_1).f4.f0).im), .complex .f32 (((rd_T66 s0_3 x8_1).f4.f1).re) (((rd_T66 s0_3 x8_1).f4.f1).im), .complex .f32 (((rd_T66 s0_3 x8_1).f4.f2).re) (((rd_T66 s0_3 x8_1).f4.f2).im), .int .i64 ((rd_T66 s0_3 x8_1).f5)], .agg #[.complex .f32 (((rd_T39 l1 x8_1).f0).re) (((rd_T39 l1 x8_1).f0).im), .complex .f32 (((rd_T39 l1 x8_1).f1).re) (((rd_T39 l1 x8_1).f1).im), .complex .f32 (((rd_T39 l1 x8_1).f2).re) (((rd_T39 l1 x8_1).f2).im)]] (by rfl) rfl rfl mp_ ?_
         with_reducible refine (impl_DropOf.calls ((rd_T66 s0_3 x8_1).f0) ((rd_T66 s0_3 x8_1).f1) ((rd_T66 s0_3 x8_1).f2) ((rd_T66 s0_3 x8_1).f3) ((rd_T66 s0_3 x8_1).f4.f0) ((rd_T66 s0_3 x8_1).f4.f1) ((rd_T66 s0_3 x8_1).f4.f2) ((rd_T66 s0_3 x8_1).f5) ((rd_T39 l1 x8_1).f0) ((rd_T39 l1 x8_1).f1) ((rd_T39 l1 x8_1).f2) t414 t415 t416 _ A12.out).mono ?_
         rintro e w23 ⟨rfl, hb⟩
         have HS8_ := (hb.cell (World.block_lt_of_cell? _ _ (hHeld.2.2.2.2.2.2.2.2.1))).trans (hHeld.2.2.2.2.2.2.2.2.1)
         have HS9_ := (hb.cell (World.block_lt_of_cell? _ _ (hHeld.2.2.2.2.2.2.2.2.2.1))).trans (hHeld.2.2.2.2.2.2.2.2.2.1)
         have HS10_ := (hb.cell (World.block_lt_of_cell? _ _ (hHeld.2.2.2.2.2.2.2.2.2.2.1))).trans (hHeld.2.2.2.2.2.2.2.2.2.2.1)
         have HS11_ := (hb.cell (World.block_lt_of_cell? _ _ (hHeld.2.2.2.2.2.2.2.2.2.2.2.1))).trans (hHeld.2.2.2.2.2.2.2.2.2.2.2.1)
         have HS12_ := (hb.cell (World.block_lt_of_cell? _ _ (hHeld.2.2.2.2.2.2.2.2.2.2.2.2.1))).trans (hHeld.2.2.2.2.2.2.2.2.2.2.2.2.1)
         have HS13_ := (hb.cell (World.block_lt_of_cell? _ _ (hHeld.2.2.2.2.2.2.2.2.2.2.2.2.2))).trans (hHeld.2.2.2.2.2.2.2.2.2.2.2.2.2)
         refine ⟨_, rfl, ?_⟩
         have n0_ := Aside0.mk (Kd.R_below (ru HO_7.out) hb)
         have n1_ := Aside0.mk (IsS42.below (by have hi_ := HI0.out; exact IsS42.up) hb)
         have n2_ := Aside0.mk (blk_below (g := gb411) (o := .cells #[.int .i64 ((rd_T66 s0_3 x8_1).f0), .complex .f32 (((rd_T66 s0_3 x8_1).f1).re) (((rd_T66 s0_3 x8_1).f1).im), .complex .f32 (((rd_T66 s0_3 x8_1).f2).re) (((rd_T66 s0_3 x8_1).f2).im), .int .i64 ((rd_T66 s0_3 x8_1).f3), .complex .f32 (((rd_T66 s0_3 x8_1).f4.f0).re) (((rd_T66 s0_3 x8_1).f4.f0).im), .complex .f32 (((rd_T66 s0_3 x8_1).f4.f1).re) (((rd_T66 s0_3 x8_1).f4.f1).im), .complex .f32 (((rd_T66 s0_3 x8_1).f4.f2).re) (((rd_T66 s0_3 x8_1).f4.f2).im), .int .i64 ((rd_T66 s0_3 x8_1).f5)] 66 (0, 0)) (bu BK411.out) hb)
         have n3_ := Aside0.mk (KeepBut.trans (by repeat (first | (with_reducible first | exact HK.out | apply KeepBut.set_ | apply keep_drewN | apply keep_drew | apply keep_alloc | refine keep_far ?_ GW411.out _) | exact HK.out)) (KeepBut.of_below hb g none) (.inl rfl))
         have n4_ := Aside0.mk (below_step (by have ge_ := IsS42.ge HI0.out; exact tb) hb)
         clear HO_7
         clear HI0
         clear BK411
         clear HK
         clear HB
         have HO_7 := n0_
         have HI0 := n1_
         have BK411 := n2_
         have HK := n3_
         have HB := n4_
         clear n0_ n1_ n2_ n3_ n4_
         (try clear hb)
         (try clear hb2)
         (try clear hk)
         (try clear hi)
         refine hK.out _ _ ⟨(blk_cell BK411.out 0).trans rfl, (blk_cell BK411.out 1).trans rfl, (blk_cell BK411.out 2).trans rfl, (blk_cell BK411.out 3).trans rfl, (blk_cell BK411.out 4).trans rfl, (blk_cell BK411.out 5).trans rfl, (blk_cell BK411.out 6).trans rfl, (blk_cell BK411.out 7).trans rfl, HS8_, HS9_, HS10_, HS11_, HS12_, HS13_⟩ (fun hHeld => ?_)
         clear hK K
         refine norm_ (a' := ?_) ?_ ?_
         rotate_left
         ·show Act.put _ (some 44) _ = _
          refine ps_ ?_
          rfl
         refine one_ (i := 14) (N := some 45) #[true, true, true, true, true, true, true, true, true, true, true, true, true, true, true, false, false, false, false] rfl rfl (one_of HT_.out (by kernel_rfl)) (by decide) (fun K hK => ?_)
         refine goes_ Try.func117 (by kernel_rfl) rfl #[.agg #[.complex .f32 (((rd_T39 x7_1 ((rd_T66 s0_3 x8_1).f0)).f0).re) (((rd_T39 x7_1 ((rd_T66 s0_3 x8_1).f0)).f0).im), .complex .f32 (((rd_T39 x7_1 ((rd_T66 s0_3 x8_1).f0)).f1).re) (((rd_T39 x7_1 ((rd_T66 s0_3 x8_1).f0)).f1).im), .complex .f32 (((rd_T39 x7_1 ((rd_T66 s0_3 x8_1).f0)).f2).re) (((rd_T39 x7_1 ((rd_T66 s0_3 x8_1).f0)).f2).im)], .agg #[.complex .f32 t414.re t414.im, .complex .f32 t415.re t415.im, .complex .f32 t416.re t416.im]] (by rfl) rfl rfl mp_ ?_
         with_reducible refine (impl_LessPhases.calls ((rd_T39 x7_1 ((rd_T66 s0_3 x8_1).f0)).f0) ((rd_T39 x7_1 ((rd_T66 s0_3 x8_1).f0)).f1) ((rd_T39 x7_1 ((rd_T66 s0_3 x8_1).f0)).f2) t414 t415 t416 t417 t418 t419 _ A13.out).mono ?_
         rintro e w24 ⟨rfl, hb⟩
         have HS8_ := (hb.cell (World.block_lt_of_cell? _ _ (hHeld.2.2.2.2.2.2.2.2.1))).trans (hHeld.2.2.2.2.2.2.2.2.1)
         have HS9_ := (hb.cell (World.block_lt_of_cell? _ _ (hHeld.2.2.2.2.2.2.2.2.2.1))).trans (hHeld.2.2.2.2.2.2.2.2.2.1)
         have HS10_ := (hb.cell (World.block_lt_of_cell? _ _ (hHeld.2.2.2.2.2.2.2.2.2.2.1))).trans (hHeld.2.2.2.2.2.2.2.2.2.2.1)
         have HS11_ := (hb.cell (World.block_lt_of_cell? _ _ (hHeld.2.2.2.2.2.2.2.2.2.2.2.1))).trans (hHeld.2.2.2.2.2.2.2.2.2.2.2.1)
         have HS12_ := (hb.cell (World.block_lt_of_cell? _ _ (hHeld.2.2.2.2.2.2.2.2.2.2.2.2.1))).trans (hHeld.2.2.2.2.2.2.2.2.2.2.2.2.1)
         have HS13_ := (hb.cell (World.block_lt_of_cell? _ _ (hHeld.2.2.2.2.2.2.2.2.2.2.2.2.2))).trans (hHeld.2.2.2.2.2.2.2.2.2.2.2.2.2)
         refine ⟨_, rfl, ?_⟩
         have n0_ := Aside0.mk (Kd.R_below (ru HO_7.out) hb)
         have n1_ := Aside0.mk (IsS42.below (by have hi_ := HI0.out; exact IsS42.up) hb)
         have n2_ := Aside0.mk (blk_below (g := gb411) (o := .cells #[.int .i64 ((rd_T66 s0_3 x8_1).f0), .complex .f32 (((rd_T66 s0_3 x8_1).f1).re) (((rd_T66 s0_3 x8_1).f1).im), .complex .f32 (((rd_T66 s0_3 x8_1).f2).re) (((rd_T66 s0_3 x8_1).f2).im), .int .i64 ((rd_T66 s0_3 x8_1).f3), .complex .f32 (((rd_T66 s0_3 x8_1).f4.f0).re) (((rd_T66 s0_3 x8_1).f4.f0).im), .complex .f32 (((rd_T66 s0_3 x8_1).f4.f1).re) (((rd_T66 s0_3 x8_1).f4.f1).im), .complex .f32 (((rd_T66 s0_3 x8_1).f4.f2).re) (((rd_T66 s0_3 x8_1).f4.f2).im), .int .i64 ((rd_T66 s0_3 x8_1).f5)] 66 (0, 0)) (bu BK411.out) hb)
         have n3_ := Aside0.mk (KeepBut.trans (by repeat (first | (with_reducible first | exact HK.out | apply KeepBut.set_ | apply keep_drewN | apply keep_drew | apply keep_alloc | refine keep_far ?_ GW411.out _) | exact HK.out)) (KeepBut.of_below hb g none) (.inl rfl))
         have n4_ := Aside0.mk (below_step (by have ge_ := IsS42.ge HI0.out; exact tb) hb)
         clear HO_7
         clear HI0
         clear BK411
         clear HK
         clear HB
         have HO_7 := n0_
         have HI0 := n1_
         have BK411 := n2_
         have HK := n3_
         have HB := n4_
         clear n0_ n1_ n2_ n3_ n4_
         (try clear hb)
         (try clear hb2)
         (try clear hk)
         (try clear hi)
         refine hK.out _ _ ⟨(blk_cell BK411.out 0).trans rfl, (blk_cell BK411.out 1).trans rfl, (blk_cell BK411.out 2).trans rfl, (blk_cell BK411.out 3).trans rfl, (blk_cell BK411.out 4).trans rfl, (blk_cell BK411.out 5).trans rfl, (blk_cell BK411.out 6).trans rfl, (blk_cell BK411.out 7).trans rfl, HS8_, HS9_, HS10_, HS11_, HS12_, HS13_⟩ (fun hHeld => ?_)
         clear hK K
         refine norm_ (a' := ?_) ?_ ?_
         rotate_left
         ·show Act.put _ (some 45) _ = _
          refine ps_ ?_
          rfl
         refine one_ (i := 15) (N := some 46) #[true, true, true, true, true, true, true, true, true, true, true, true, true, true, true, true, false, false, false] rfl rfl (one_of HT_.out (by kernel_rfl)) (by decide) (fun K hK => ?_)
         refine goesD_ Try.func82 (by kernel_rfl) rfl #[.int .i64 x8_1, .agg #[.complex .f32 t417.re t417.im, .complex .f32 t418.re t418.im, .complex .f32 t419.re t419.im]] (by rfl) rfl rfl (by rfl) mp_ ?_
         with_reducible refine (impl_same.calls x8_1 t417 t418 t419 t420 t421 t422 _ A14.out).mono ?_
         rintro e w25 ⟨rfl, hb⟩
         have HS8_ := (hb.cell (World.block_lt_of_cell? _ _ (hHeld.2.2.2.2.2.2.2.2.1))).trans (hHeld.2.2.2.2.2.2.2.2.1)
         have HS9_ := (hb.cell (World.block_lt_of_cell? _ _ (hHeld.2.2.2.2.2.2.2.2.2.1))).trans (hHeld.2.2.2.2.2.2.2.2.2.1)
         have HS10_ := (hb.cell (World.block_lt_of_cell? _ _ (hHeld.2.2.2.2.2.2.2.2.2.2.1))).trans (hHeld.2.2.2.2.2.2.2.2.2.2.1)
         have HS11_ := (hb.cell (World.block_lt_of_cell? _ _ (hHeld.2.2.2.2.2.2.2.2.2.2.2.1))).trans (hHeld.2.2.2.2.2.2.2.2.2.2.2.1)
         have HS12_ := (hb.cell (World.block_lt_of_cell? _ _ (hHeld.2.2.2.2.2.2.2.2.2.2.2.2.1))).trans (hHeld.2.2.2.2.2.2.2.2.2.2.2.2.1)
         have HS13_ := (hb.cell (World.block_lt_of_cell? _ _ (hHeld.2.2.2.2.2.2.2.2.2.2.2.2.2))).trans (hHeld.2.2.2.2.2.2.2.2.2.2.2.2.2)
         refine ⟨_, rfl, ?_⟩
         have n0_ := Aside0.mk (Kd.R_below (ru HO_7.out) hb)
         have n1_ := Aside0.mk (IsS42.below (by have hi_ := HI0.out; exact IsS42.up) hb)
         have n2_ := Aside0.mk (blk_below (g := gb411) (o := .cells #[.int .i64 ((rd_T66 s0_3 x8_1).f0), .complex .f32 (((rd_T66 s0_3 x8_1).f1).re) (((rd_T66 s0_3 x8_1).f1).im), .complex .f32 (((rd_T66 s0_3 x8_1).f2).re) (((rd_T66 s0_3 x8_1).f2).im), .int .i64 ((rd_T66 s0_3 x8_1).f3), .complex .f32 (((rd_T66 s0_3 x8_1).f4.f0).re) (((rd_T66 s0_3 x8_1).f4.f0).im), .complex .f32 (((rd_T66 s0_3 x8_1).f4.f1).re) (((rd_T66 s0_3 x8_1).f4.f1).im), .complex .f32 (((rd_T66 s0_3 x8_1).f4.f2).re) (((rd_T66 s0_3 x8_1).f4.f2).im), .int .i64 ((rd_T66 s0_3 x8_1).f5)] 66 (0, 0)) (bu BK411.out) hb)
         have n3_ := Aside0.mk (KeepBut.trans (by repeat (first | (with_reducible first | exact HK.out | apply KeepBut.set_ | apply keep_drewN | apply keep_drew | apply keep_alloc | refine keep_far ?_ GW411.out _) | exact HK.out)) (KeepBut.of_below hb g none) (.inl rfl))
         have n4_ := Aside0.mk (below_step (by have ge_ := IsS42.ge HI0.out; exact tb) hb)
         clear HO_7
         clear HI0
         clear BK411
         clear HK
         clear HB
         have HO_7 := n0_
         have HI0 := n1_
         have BK411 := n2_
         have HK := n3_
         have HB := n4_
         clear n0_ n1_ n2_ n3_ n4_
         (try clear hb)
         (try clear hb2)
         (try clear hk)
         (try clear hi)
         refine hK.out _ _ ⟨(blk_cell BK411.out 0).trans rfl, (blk_cell BK411.out 1).trans rfl, (blk_cell BK411.out 2).trans rfl, (blk_cell BK411.out 3).trans rfl, (blk_cell BK411.out 4).trans rfl, (blk_cell BK411.out 5).trans rfl, (blk_cell BK411.out 6).trans rfl, (blk_cell BK411.out 7).trans rfl, HS8_, HS9_, HS10_, HS11_, HS12_, HS13_⟩ (fun hHeld => ?_)
         clear hK K
         refine norm_ (a' := ?_) ?_ ?_
         rotate_left
         ·show Act.put _ (some 46) _ = _
          refine ps_ ?_
          rfl
         refine last_ (i := 16) (N := some 47) #[true, true, true, true, true, true, true, true, true, true, true, true, true, true, true, true, true, false, false] rfl rfl (one_of HT_.out (by kernel_rfl)) (by decide) (fun K hK => ?_)
         refine value_ (w1 := ?_) (v := ?_) (by rfl) rfl ?_ ?_
         rotate_left 2
         ·go_simp
          constructor
          ·rfl
          ·rfl
         refine hK.out _ _ ?_
         clear hK K
         refine norm_ (a' := ?_) ?_ ?_
         rotate_left
         ·show Act.put _ (some 47) _ = _
          refine ps_ ?_
          rfl
         refine last_ (i := 17) (N := some 48) #[true, true, true, true, true, true, true, true, true, true, true, true, true, true, true, true, true, true, false] rfl rfl (one_of HT_.out (by kernel_rfl)) (by decide) (fun K hK => ?_)
         refine Kd.R_append_step k39 w.heap.size (by rfl) (.tmp 31) (.tmp 47) 44 39 (.agg #[(.complex .f32 0 0), (.complex .f32 0 0), (.complex .f32 0 0)]) 24 rfl Try.underlying44 info39 rfl (by decide) (by omega) (.slice (some ad412) x7_1.length co22) x7_1 (⟨t420, t421, t422⟩ : S39) [.complex .f32 t420.re t420.im, .complex .f32 t421.re t421.im, .complex .f32 t422.re t422.im] (fun _ => True) (fun _ => False) rfl rfl ?aP (fun _ hk => hk.elim) ?aF ?aO (Below.refl _ _) ?aS ?aL ?_
         (case aP => exact k39_mkM _ _ _ (⟨t420, t421, t422⟩ : S39))
         (case aF => exact (fun _ _ => trivial))
         (case aO => exact (ru HO_7.out))
         (case aS => exact (keep_size (w := w) (g := g) (row := none) (by repeat (first | (with_reducible first | exact HK.out | apply KeepBut.set_ | apply keep_drewN | apply keep_drew | apply keep_alloc | refine keep_far ?_ GW411.out _) | exact HK.out))))
         (case aL => have := LMc15.out; omega)
         intro v424 w26 ho hb hg hat
         rw [← Ny423.out] at ho
         have n0_ := Aside0.mk (IsS42.grown (show IsS42 w0 _ g s0_0 s0_1 s0_2 s0_3 from by have hi_ := HI0.out; exact IsS42.up) hg (IsS42.own_ne HI0.out HO_7.out (by decide)))
         have n1_ := Aside0.mk (blk_grown (g := gb411) (o := .cells #[.int .i64 ((rd_T66 s0_3 x8_1).f0), .complex .f32 (((rd_T66 s0_3 x8_1).f1).re) (((rd_T66 s0_3 x8_1).f1).im), .complex .f32 (((rd_T66 s0_3 x8_1).f2).re) (((rd_T66 s0_3 x8_1).f2).im), .int .i64 ((rd_T66 s0_3 x8_1).f3), .complex .f32 (((rd_T66 s0_3 x8_1).f4.f0).re) (((rd_T66 s0_3 x8_1).f4.f0).im), .complex .f32 (((rd_T66 s0_3 x8_1).f4.f1).re) (((rd_T66 s0_3 x8_1).f4.f1).im), .complex .f32 (((rd_T66 s0_3 x8_1).f4.f2).re) (((rd_T66 s0_3 x8_1).f4.f2).im), .int .i64 ((rd_T66 s0_3 x8_1).f5)] 66 (0, 0)) (bu BK411.out) hg (Kd.R_ne HO_7.out BK411.out (by decide)))
         have n2_ := Aside0.mk (below_weaken (by have ge_ := IsS42.ge HI0.out; exact tb) HL.out hb)
         have n3_ := Aside0.mk (KeepBut.trans (by repeat (first | (with_reducible first | exact HK.out | apply KeepBut.set_ | apply keep_drewN | apply keep_drew | apply keep_alloc | refine keep_far ?_ GW411.out _) | exact HK.out)) (KeepBut.of_grown hg g) (Kd.R_base2 HO_7.out))
         have n4_ := Aside0.mk (ho)
         clear HI0
         clear BK411
         clear HB
         clear HK
         clear HO_7
         have HI0 := n0_
         have BK411 := n1_
         have HB := n2_
         have HK := n3_
         have HO425 := n4_
         clear n0_ n1_ n2_ n3_ n4_
         clear ho hb hg hat
         refine hK.out _ _ ?_
         clear hK K
         refine norm_ (a' := ?_) ?_ ?_
         rotate_left
         ·show Act.put _ (some 48) _ = _
          refine ps_ ?_
          rfl
         refine pure_ (i := 18) (N := some 7) (v := ?_) (a' := ?_) #[true, true, true, true, true, true, true, true, true, true, true, true, true, true, true, true, true, true, true] rfl rfl (any_of HT_.out (by kernel_rfl)) (fun _ _ _ h => h) (Or.inl ⟨by rfl, ?_⟩) ?_ ?_
         rotate_left
         ·intro w'
          go_simp
          with_reducible rfl
         rotate_left
         ·refine ps_ ?_
          rfl
         refine done_ (done_of HT_.out (by kernel_rfl)) ?_
         try go_wp2
         go_roundg k1
         case measure => have := HK1.out; omega
         case rel => exact ⟨(y423), (wrap64 (x8_1 + 1)), rs_, H', ⟨by have := HK1.out; omega⟩, ⟨by refine ru ?_; exact HO425.out⟩, ⟨by have hi_ := HI0.out; exact IsS42.up⟩, ⟨by repeat (first | (with_reducible first | exact HK.out | apply KeepBut.set_ | apply keep_drewN | apply keep_drew | apply keep_alloc | refine keep_far ?_ GW411.out _) | exact HK.out)⟩, ⟨by have ge_ := IsS42.ge HI0.out; exact tb⟩⟩
        ·rw [if_neg c15] at H
         exact absurd H (by simp)
       ·rw [if_neg c11] at H
        exact absurd H (by simp)
      ·rw [if_neg c10] at H
       exact absurd H (by simp)
     ·rw [if_neg c9] at H
      exact absurd H (by simp)
    ·rw [if_neg c8] at H
     exact absurd H (by simp)
   ·rw [if_neg c7] at H
    have c7b0 : decide (x8_1 < (s0_3.length : Int)) = false := decide_eq_false c7
    clear c7
    simp only [Option.some.injEq, Prod.mk.injEq] at H
    obtain ⟨rfl, rfl, rfl, rfl⟩ := H
    obtain ⟨ASz27_3, cSz27_3, HGz27, hgz27, HSz27_3, HLz27_3⟩ := HI0.out
    have hcz27_0 := cellS42_0 HGz27
    have hcz27_1 := cellS42_1 HGz27
    have hcz27_2 := cellS42_2 HGz27
    have hcz27_3 := cellS42_3 HGz27
    have hfz27_0 := blk_frozen HGz27 0
    have hfz27_1 := blk_frozen HGz27 1
    have hfz27_2 := blk_frozen HGz27 2
    clear HGz27 hgz27
    go_wp2
    go_ret
    exact ⟨_, re_, by refine ru ?_; exact HO_7.out, by have hi_ := HI0.out; exact IsS42.up, by have ge_ := IsS42.ge HI0.out; exact tb, by repeat (first | (with_reducible first | exact HK.out | apply KeepBut.set_ | apply keep_drewN | apply keep_drew | apply keep_alloc) | exact HK.out)⟩

end Go.Proofs.Ytcgpomicgbmdlaa.PFnBanks
