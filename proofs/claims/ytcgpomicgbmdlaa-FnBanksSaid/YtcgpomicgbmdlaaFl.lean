/- Words for floats and complex numbers, beside the printed words: kinds, operations that ask nothing of the tape, externs of math. -/
import Derived.Test.YtcgpomicgbmdlaaProg
import Derived.Test.YtcgpomicgbmdlaaWm1
import Derived.Laws.Cover3
import Derived.Laws.FloatArith
import Derived.Laws.Externs
import Derived.Laws.Unary
namespace Go.Proofs.YtcgpomicgbmdlaaW.PrintWords
open Go.RowKit
set_option linter.unusedVariables false
set_option linter.unusedSimpArgs false

/-- A complex number: the bits of its parts. -/
structure Cx where
  re : Nat
  im : Nat
def cxv (k : FloatKind) (z : Cx) : Value := .complex k z.re z.im
namespace Kd
def f32 : Kd Nat := scalar (Value.float .f32) (fun _ => rfl)
def f64 : Kd Nat := scalar (Value.float .f64) (fun _ => rfl)
def c64 : Kd Cx := scalar (cxv .f32) (fun _ => rfl)
def c128 : Kd Cx := scalar (cxv .f64) (fun _ => rfl)
theorem heap_c64 : Heap Kd.c64 := ⟨fun _ h => h⟩
section
variable {w : World} {A : Option Addr} {ad : Addr} {n : Nat}
theorem at_f32 {xs : List Nat} (h : Kd.f32.C w A n xs) (i : Int) (h0 : 0 ≤ i) (h1 : i < n) : ∃ ad, A = some ad ∧ w.cell? (ad.add i.toNat) = some (.float .f32 (rdOf (0 : Nat) xs i)) :=
  ReadsOf.at_ (reads_of_C (enc := Value.float .f32) (d := (0 : Nat)) (h1 := fun _ => rfl) h) i h0 h1
end
end Kd

/-! ### operations -/
/-- Is the operation valid (no not-a-number comes of it)? Its bits. -/
def fok (op : BinOp) (k : FloatKind) (x y : Nat) : Bool := (floatBits op k x y).isSome
def fv (op : BinOp) (k : FloatKind) (x y : Nat) : Nat := (floatBits op k x y).getD 0
theorem floatBits_of {op : BinOp} {k : FloatKind} {x y : Nat} (h : fok op k x y = true) : floatBits op k x y = some (fv op k x y) := by
  unfold fok at h
  unfold fv
  cases hb : floatBits op k x y with
  | none => rw [hb] at h; cases h
  | some r => rfl
def cvok (s : FloatKind) (x : Nat) (d : FloatKind) : Bool := (floatToFloatBits s x d).isSome
def cv (s : FloatKind) (x : Nat) (d : FloatKind) : Nat := (floatToFloatBits s x d).getD 0
theorem cv_of {s d : FloatKind} {x : Nat} (h : cvok s x d = true) : floatToFloatBits s x d = some (cv s x d) := by
  unfold cvok at h
  unfold cv
  cases hb : floatToFloatBits s x d with
  | none => rw [hb] at h; cases h
  | some r => rfl
def iok (s : FloatKind) (x : Nat) (d : IntKind) : Bool := (floatToIntVal s x d).isSome
def iv (s : FloatKind) (x : Nat) (d : IntKind) : Int := (floatToIntVal s x d).getD 0
theorem iv_of {s : FloatKind} {d : IntKind} {x : Nat} (h : iok s x d = true) : floatToIntVal s x d = some (iv s x d) := by
  unfold iok at h
  unfold iv
  cases hb : floatToIntVal s x d with
  | none => rw [hb] at h; cases h
  | some r => rfl
def feq (k : FloatKind) (a b : Nat) : Bool := k.format.order a b == some .eq
def fne (k : FloatKind) (a b : Nat) : Bool := k.format.order a b != some .eq
def flt (k : FloatKind) (a b : Nat) : Bool := k.format.order a b == some .lt
def fle (k : FloatKind) (a b : Nat) : Bool := k.format.order a b == some .lt || k.format.order a b == some .eq
def fgt (k : FloatKind) (a b : Nat) : Bool := k.format.order a b == some .gt
def fge (k : FloatKind) (a b : Nat) : Bool := k.format.order a b == some .gt || k.format.order a b == some .eq
def ceq (k : FloatKind) (a b c d : Nat) : Bool := (k.format.order a c == some .eq) && (k.format.order b d == some .eq)
def cne (k : FloatKind) (a b c d : Nat) : Bool := !((k.format.order a c == some .eq) && (k.format.order b d == some .eq))
def fneg (k : FloatKind) (b : Nat) : Nat := Op.negFloat k b
def bitsI (b : Nat) : Int := b
def fromI (n : Int) : Nat := n.toNat
def sqok (x : Nat) : Bool := (FloatKind.f64.format.sqrt x).isSome
def sqv (x : Nat) : Nat := (FloatKind.f64.format.sqrt x).getD 0
def trok (x : Nat) : Bool := !(FloatKind.f64.decode x).isNaN
def trv (x : Nat) : Nat := FloatKind.f64.encode ((FloatKind.f64.decode x).integral .zero)

section
variable {P : Program} (w : World)
@[go_sem high] theorem run_feq (t : TypeId) (k : FloatKind) (a b : Nat) : binOp .eql t (.float k a) (.float k b) = pure (.bool (feq k a b)) := binOp_float_cmp_eql t k a b
@[go_sem high] theorem run_fne (t : TypeId) (k : FloatKind) (a b : Nat) : binOp .neq t (.float k a) (.float k b) = pure (.bool (fne k a b)) := binOp_float_cmp_neq t k a b
@[go_sem high] theorem run_flt (t : TypeId) (k : FloatKind) (a b : Nat) : binOp .lss t (.float k a) (.float k b) = pure (.bool (flt k a b)) := binOp_float_cmp_lss t k a b
@[go_sem high] theorem run_fle (t : TypeId) (k : FloatKind) (a b : Nat) : binOp .leq t (.float k a) (.float k b) = pure (.bool (fle k a b)) := binOp_float_cmp_leq t k a b
@[go_sem high] theorem run_fgt (t : TypeId) (k : FloatKind) (a b : Nat) : binOp .gtr t (.float k a) (.float k b) = pure (.bool (fgt k a b)) := binOp_float_cmp_gtr t k a b
@[go_sem high] theorem run_fge (t : TypeId) (k : FloatKind) (a b : Nat) : binOp .geq t (.float k a) (.float k b) = pure (.bool (fge k a b)) := binOp_float_cmp_geq t k a b
@[go_sem high] theorem run_ceq (t : TypeId) (k : FloatKind) (a b c d : Nat) : (binOp .eql t (.complex k a b) (.complex k c d)).run P w = .ok (.bool (ceq k a b c d)) w := run_eql_complex w t k a b c d
@[go_sem high] theorem run_cne (t : TypeId) (k : FloatKind) (a b c d : Nat) : (binOp .neq t (.complex k a b) (.complex k c d)).run P w = .ok (.bool (cne k a b c d)) w := run_neq_complex w t k a b c d
@[go_sem] theorem run_fadd (t : TypeId) (k : FloatKind) (x y : Nat) (h : fok .add k x y = true) : (binOp .add t (.float k x) (.float k y)).run P w = .ok (.float k (fv .add k x y)) w := run_float_arith w .add t k x y _ (floatBits_of h)
@[go_sem] theorem run_fsub (t : TypeId) (k : FloatKind) (x y : Nat) (h : fok .sub k x y = true) : (binOp .sub t (.float k x) (.float k y)).run P w = .ok (.float k (fv .sub k x y)) w := run_float_arith w .sub t k x y _ (floatBits_of h)
@[go_sem] theorem run_fmul (t : TypeId) (k : FloatKind) (x y : Nat) (h : fok .mul k x y = true) : (binOp .mul t (.float k x) (.float k y)).run P w = .ok (.float k (fv .mul k x y)) w := run_float_arith w .mul t k x y _ (floatBits_of h)
@[go_sem] theorem run_fquo (t : TypeId) (k : FloatKind) (x y : Nat) (h : fok .quo k x y = true) : (binOp .quo t (.float k x) (.float k y)).run P w = .ok (.float k (fv .quo k x y)) w := run_float_arith w .quo t k x y _ (floatBits_of h)
theorem run_floatArith_ {op : BinOp} {k : FloatKind} {x y r : Nat} (h : floatBits op k x y = some r) : (Op.floatArith op k x y).run P w = .ok (.float k r) w := by
  unfold floatBits at h
  cases op <;> simp only at h <;> first | (cases h; done) | skip
  all_goals simp [Op.floatArith, h]
theorem run_carith_ {op : BinOp} {k : FloatKind} {x y r : Nat} (h : floatBits op k x y = some r) : (Op.Complex.arith op k x y).run P w = .ok r w := by
  simp [Op.Complex.arith, run_floatArith_ w h]
@[go_sem] theorem run_cadd (t : TypeId) (k : FloatKind) (a b c d : Nat) (h1 : fok .add k a c = true) (h2 : fok .add k b d = true) : (binOp .add t (.complex k a b) (.complex k c d)).run P w = .ok (.complex k (fv .add k a c) (fv .add k b d)) w := by
  simp [binOp, Op.complexOp, run_carith_ w (floatBits_of h1), run_carith_ w (floatBits_of h2)]
@[go_sem] theorem run_csub (t : TypeId) (k : FloatKind) (a b c d : Nat) (h1 : fok .sub k a c = true) (h2 : fok .sub k b d = true) : (binOp .sub t (.complex k a b) (.complex k c d)).run P w = .ok (.complex k (fv .sub k a c) (fv .sub k b d)) w := by
  simp [binOp, Op.complexOp, run_carith_ w (floatBits_of h1), run_carith_ w (floatBits_of h2)]
@[go_sem] theorem run_cvff (src dst : TypeId) (s k : FloatKind) (b : Nat) (hs : (P.underlying src).isSome = true) (hd : P.underlying dst = some (.float k)) (h : cvok s b k = true) :
    (convert src dst (.float s b)).run P w = .ok (.float k (cv s b k)) w := run_convert_float_float w src dst s k b _ hs hd (cv_of h)
@[go_sem] theorem run_cvfi (src dst : TypeId) (s : FloatKind) (k : IntKind) (b : Nat) (hs : (P.underlying src).isSome = true) (hd : P.underlying dst = some (.int k)) (h : iok s b k = true) :
    (convert src dst (.float s b)).run P w = .ok (.int k (iv s b k)) w := run_convert_float_int w src dst s k b _ hs hd (iv_of h)
@[go_sem] theorem unary_neg_float (k : FloatKind) (b : Nat) : Op.unary .neg (.float k b) = pure (.float k (fneg k b)) := rfl
@[go_sem] theorem unary_neg_complex (k : FloatKind) (a b : Nat) : Op.unary .neg (.complex k a b) = pure (.complex k (fneg k a) (fneg k b)) := rfl
theorem run_store_float_ (a : Addr) (m : Mode) (k : FloatKind) (b : Nat) : (store a (.float k b) m).run P w = stored P w a (.float k b) m := run_store P w a _ m rfl
theorem run_store_complex_ (a : Addr) (m : Mode) (k : FloatKind) (x y : Nat) : (store a (.complex k x y) m).run P w = stored P w a (.complex k x y) m := run_store P w a _ m rfl
attribute [go_sem] run_store_float_ run_store_complex_
end

/-! ### externs -/
@[go_sem] theorem ext_bits32 (b : Nat) (w : World) : (callFunc 168 #[.float .f32 b]).run Try.prog w = .ok (.value (.int .u32 (bitsI b))) w := by
  rw [run_callFunc_extern (P := Try.prog) (e := Extern.MathFloatBits.float32bits) Try.func168 (by kernel_rfl) (by kernel_rfl) (by kernel_rfl) (by kernel_rfl)]; rfl
@[go_sem] theorem ext_from32 (n : Int) (w : World) : (callFunc 174 #[.int .u32 n]).run Try.prog w = .ok (.value (.float .f32 (fromI n))) w := by
  rw [run_callFunc_extern (P := Try.prog) (e := Extern.MathFloatBits.float32frombits) Try.func174 (by kernel_rfl) (by kernel_rfl) (by kernel_rfl) (by kernel_rfl)]; rfl
@[go_sem] theorem ext_bits64 (b : Nat) (w : World) : (callFunc 179 #[.float .f64 b]).run Try.prog w = .ok (.value (.int .u64 (bitsI b))) w := by
  rw [run_callFunc_extern (P := Try.prog) (e := Extern.MathFloatBits.float64bits) Try.func179 (by kernel_rfl) (by kernel_rfl) (by kernel_rfl) (by kernel_rfl)]; rfl
@[go_sem] theorem ext_from64 (n : Int) (w : World) : (callFunc 178 #[.int .u64 n]).run Try.prog w = .ok (.value (.float .f64 (fromI n))) w := by
  rw [run_callFunc_extern (P := Try.prog) (e := Extern.MathFloatBits.float64frombits) Try.func178 (by kernel_rfl) (by kernel_rfl) (by kernel_rfl) (by kernel_rfl)]; rfl
theorem run_sqrt_ {P : Program} (x : Nat) (w : World) (h : sqok x = true) : (Extern.MathSqrt.sqrt #[.float .f64 x]).run P w = .ok (.float .f64 (sqv x)) w := by
  unfold sqok at h
  unfold sqv
  cases hb : FloatKind.f64.format.sqrt x with
  | none => rw [hb] at h; cases h
  | some r =>
    have h1 : Extern.MathSqrt.sqrt #[.float .f64 x] = (match FloatKind.f64.format.sqrt x with | some r => pure (.float .f64 r) | none => do pure (.float .f64 (← choose (.nanBits .f64 x x)))) := rfl
    rw [h1, hb]
    rfl
@[go_sem] theorem ext_sqrt (x : Nat) (w : World) (h : sqok x = true) : (callFunc 167 #[.float .f64 x]).run Try.prog w = .ok (.value (.float .f64 (sqv x))) w := by
  rw [run_callFunc_extern (P := Try.prog) (e := Extern.MathSqrt.sqrt) Try.func167 (by kernel_rfl) (by kernel_rfl) (by kernel_rfl) (by kernel_rfl), run_sqrt_ x w h]; rfl
theorem run_trunc_ {P : Program} (x : Nat) (w : World) (h : trok x = true) : (Extern.MathFloor.toIntegral "math.archTrunc" .zero #[.float .f64 x]).run P w = .ok (.float .f64 (trv x)) w := by
  unfold trok at h
  unfold trv
  have h1 : Extern.MathFloor.toIntegral "math.archTrunc" .zero #[.float .f64 x] = (match FloatKind.f64.decode x with
    | .nan s t => if FloatKind.f64.format.quiet t = t then pure (.float .f64 x) else do
      pure (.float .f64 (if (← choose (.extern "math.Floor,Ceil,Trunc,RoundToEven.signallingNaN kept" 2)) == 1 then x else FloatKind.f64.encode (.nan s (FloatKind.f64.format.quiet t))))
    | d => pure (.float .f64 (FloatKind.f64.encode (d.integral .zero)))) := rfl
  cases hb : FloatKind.f64.decode x with
  | nan s t => rw [hb] at h; cases h
  | number s m e => rw [h1, hb]; rfl
  | infinity s => rw [h1, hb]; rfl
@[go_sem] theorem ext_trunc (x : Nat) (w : World) (h : trok x = true) : (callFunc 182 #[.float .f64 x]).run Try.prog w = .ok (.value (.float .f64 (trv x))) w := by
  rw [run_callFunc_extern (P := Try.prog) (e := Extern.MathFloor.toIntegral "math.archTrunc" .zero) Try.func182 (by kernel_rfl) (by kernel_rfl) (by kernel_rfl) (by kernel_rfl), run_trunc_ x w h]; rfl
end Go.Proofs.YtcgpomicgbmdlaaW.PrintWords
/- Short words for printed texts: a lemma's last premise is proved by the tactic that the texts would repeat (shrink.py puts them in). -/
namespace Go.Proofs.YtcgpomicgbmdlaaW.PrintWords
open Go.RowKit Go.Proofs.YtcgpomicgbmdlaaW.PrintLast
set_option linter.unusedVariables false
theorem bu {P Q : Prop} (h : P) (t : P → Q := by intro h_; (with_reducible repeat (first | refine blk_drewN ?_ _ | refine blk_drew ?_ | refine blk_alloc ?_ _)); exact h_) : Q := t h
theorem bv {P Q : Prop} (h : P) (t : P → Q := by intro h_; (with_reducible repeat (first | refine blk_drewN ?_ _ | refine blk_drew ?_ | refine blk_alloc ?_ _ | refine blk_far ?_ (Aside0.out (by clear h_; assumption)) _)); exact h_) : Q := t h
theorem ru {P Q : Prop} (h : P) (t : P → Q := by intro h_; (with_reducible repeat (first | apply Kd.R_alloc | apply Kd.R_drewN | apply Kd.R_drew)); exact h_) : Q := t h
theorem cu {P Q : Prop} (h : P) (t : P → Q := by intro h_; repeat (first | exact h_ | (with_reducible refine Kd.C_alloc ?_ _) | (with_reducible refine Kd.C_drewN ?_ _) | (with_reducible refine Kd.C_drew ?_))) : Q := t h
theorem tb {P : Prop} (h : P := by repeat (first | (with_reducible first | exact HB.out | apply below_alloc | apply pw_below_drewN | apply below_drew1 | refine below_set ?_ (Aside0.out (by assumption)) | refine below_set ?_ ge_) | exact HB.out)) : P := h
theorem mp_ {P : Prop} (h : P := by ((try simp only [List.map_toArray, List.map_cons, List.map_nil]); first | done | rfl | (simp only [List.length_drop, List.length_take]; rfl))) : P := h
theorem ps_ {P Q : Prop} (h : P) (t : P → Q := by intro h_; simp only [Act.put, List.setIfInBounds_toArray, List.set_cons_zero, List.set_cons_succ, i64_w, i32_w]; exact h_) : Q := t h
theorem pt_ {P Q : Prop} (h : P) (t : P → Q := by intro h_; simp only [Act.put, List.setIfInBounds_toArray, List.set_cons_zero, List.set_cons_succ]; exact h_) : Q := t h
theorem re_ {P : Prop} (h : P := by first | rfl | (simp [errW_none, errW_some] <;> rfl) | (simp [*, errW_none, errW_some] <;> rfl)) : P := h
theorem rs_ {P : Prop} (h : P := by first | rfl | (simp; done) | (simp [*]; done)) : P := h
theorem dr_ {P : Prop} (h : P := by repeat (first | exact Drawn0.refl _ | apply Drawn0.step)) : P := h
theorem om_ {P : Prop} (h : P := by first | omega | exact Nat.le_refl _) : P := h
theorem gx_ {P : Program} {ops : Array Oper} {Q : Exit → Act → World → Prop} {rest : List Oper} {oi : Oper} {a : Act} {w : World} {f : FuncId} {fn : Func} {os : Array Operand} {ts : Array TypeId}
    (N : Option Tmp) (hf : P.funcs[f]? = some fn) (args : Array Value)
    (h : Calls P f args w fun e w' => ∃ v, e = .returned v ∧ wpList P ops Q rest (a.put N v) w')
    (hd : oi.dst = N := by exact rfl) (hg : oi.guard = none := by exact rfl) (hname : (fn.name == "runtime.NumGoroutine") = false := by kernel_rfl) (hb : fn.body.isSome = true := by exact rfl)
    (hop : oi.op = .call { callee := .value (.func f), args := os, argTypes := ts } := by exact rfl) (hargs : os.map a.eval = args := by ((try simp only [List.map_toArray, List.map_cons, List.map_nil]); first | done | rfl | (simp only [List.length_drop, List.length_take]; rfl))) :
    wpList P ops Q (oi :: rest) a w := goesL_ N hd hg hf hname hb args hop hargs h
/-- A call of a function value: what it captured comes behind the arguments. -/
theorem goesD_ {P : Program} {ops : Array Oper} {Q : Exit → Act → World → Prop} {oi : Oper} {N : Option Tmp} {a : Act} {w : World} {K : Act → World → Prop} {f : FuncId} {fn : Func} {cf : Operand} {os : Array Operand} {ts : Array TypeId} {fst cap : Array Value}
    (hf : P.funcs[f]? = some fn) (hname : (fn.name == "runtime.NumGoroutine") = false) (hb : fn.body.isSome = true) (args : Array Value)
    (hw : Region.wanted oi (yielded ops a.tmps) = true) (hN : oi.dst = N) (hop : oi.op = .call { callee := .value cf, args := os, argTypes := ts }) (hcf : a.eval cf = .func (.func f) fst cap) (hargs : fst ++ os.map a.eval ++ cap = args)
    (h : Calls P f args w fun e w' => ∃ v, e = .returned v ∧ K (a.put N v) w') : if Region.wanted oi (yielded ops a.tmps) = true then Oper.wp P oi a w K Q else K (a.put N undef) w := by
  refine call_ f args hw hN ?_ h
  have he := enters_ hf hname hb args w
  unfold execOp
  simp [hop, hcf, resolve, Deferred.ofValue, invoke, hargs, he]
@[go_sem] theorem run_eql_slice_nil_ {P : Program} (w : World) (t e : TypeId) (a : Option Addr) (l c : Nat) (h : P.underlying t = some (.slice e)) : (binOp .eql t (.slice a l c) (.slice none 0 0)).run P w = .ok (.bool a.isNone) w := by
  simp only [binOp]
  simp [run_equal_slice_nil w t e a l c h]
/-- What came in by w0 stays readable as long as the state's block alone is turned, told from the entry's world. -/
theorem Kd.C_foot_entry {α : Type} {d : Kd α} {w0 w W : World} {g n : Nat} {A : Option Addr} {xs : List α} (hd : Kd.Heap d) (h : d.C w0 A n xs) (hb : Below w0.heap.size w0 W) (hg : w0.heap.size ≤ g) (hk : KeepBut w W g none) (hs : w0.heap.size ≤ w.heap.size) :
    ∀ W', KeepBut w W' g none → d.C W' A n xs := fun W' hk' =>
  hd.C (fun k hlt => (hk'.2 k (by omega) (by omega) (by simp)).trans ((hk.2 k (by omega) (by omega) (by simp)).symm.trans (hb.block k hlt))) h
end Go.Proofs.YtcgpomicgbmdlaaW.PrintWords
