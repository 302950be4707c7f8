/- The engine, part m: floats. -/
import Derived.Test.YtbllgmcpebifhaaGreatDoorZKl
import Derived.Test.YtbllgmcpebifhaaGreatDoorZMh
import Derived.Test.YtbllgmcpebifhaaGreatDoorZKt
import Derived.Laws.Externs
import Derived.Laws.ComplexArith

section
namespace Go.Proofs.YtbllgmcpebifhaaGreatDoor.K
open Go Go.RowKit
set_option linter.all false

section
variable {G : Ctx} {n : Nat} {P : Program} {ops : Array Oper} {Q : Post} {rest : List Oper} {m : Regs} {L : List Own} {F : List Fact}
variable {d : Nat} {ty : TypeId} {pos : String} {af : Array Edge} {g : Option (Nat × Bool)}
theorem guard_flt {op : BinOp} {t : TypeId} {x y : Operand} {k k' : FloatKind} {a b : Nat} (w : World) : (eqGuard op t x y (.float k a) (.float k' b)).run P w = .ok () w := by
  unfold eqGuard; split <;> rfl
/-- A float operation with an answer. -/
theorem l_flt {op : BinOp} {t yt : TypeId} {x y : Operand} {p q r : Nat} (hw : wantG ops m g = some true) (hx : ev m x = some (.float .f64 p)) (hy : ev m y = some (.float .f64 q)) (hd : Nat.blt d n = true)
    (hz : floatBits op .f64 p q = some r) (h : RunL G n P ops Q rest ((d, .float .f64 r) :: m) L F) : RunL G n P ops Q (⟨some d, .binOp op t x y yt, ty, pos, af, g⟩ :: rest) m L F :=
  l_bin hw hx hy hd (fun w => guard_flt w) (fun w => run_float_arith w op t .f64 p q r hz) h
theorem cmp_beq (a b : Int) : ((compare a b == Ordering.lt) = decide (a < b)) ∧ ((compare a b == Ordering.eq) = decide (a = b)) ∧ ((compare a b == Ordering.gt) = decide (b < a)) := by
  simp only [compare, compareOfLessAndEq]
  by_cases h1 : a < b
  · have h2 : ¬ a = b := by omega
    have h3 : ¬ b < a := by omega
    simp [h1, h2, h3]
  · by_cases h2 : a = b
    · subst h2; simp
    · have h3 : b < a := by omega
      simp [h1, h2, h3]
theorem run_flss {t : TypeId} {p q : Nat} {a b : Int} (w : World) (hp : fv p = some a) (hq : fv q = some b) : (binOp .lss t (.float .f64 p) (.float .f64 q)).run P w = .ok (.bool (decide (a < b))) w := by
  have h := order_exact hp hq
  obtain ⟨h1, h2, h3⟩ := cmp_beq a b
  have e : FloatKind.format .f64 = Ieee.double := rfl
  simp [binOp, Op.floatCmp, e, h, h1, h2, h3, bne]
theorem run_feql {t : TypeId} {p q : Nat} {a b : Int} (w : World) (hp : fv p = some a) (hq : fv q = some b) : (binOp .eql t (.float .f64 p) (.float .f64 q)).run P w = .ok (.bool (decide (a = b))) w := by
  have h := order_exact hp hq
  obtain ⟨h1, h2, h3⟩ := cmp_beq a b
  have e : FloatKind.format .f64 = Ieee.double := rfl
  simp [binOp, Op.floatCmp, e, h, h1, h2, h3, bne]
theorem run_fneq {t : TypeId} {p q : Nat} {a b : Int} (w : World) (hp : fv p = some a) (hq : fv q = some b) : (binOp .neq t (.float .f64 p) (.float .f64 q)).run P w = .ok (.bool (decide (a ≠ b))) w := by
  have h := order_exact hp hq
  obtain ⟨h1, h2, h3⟩ := cmp_beq a b
  have e : FloatKind.format .f64 = Ieee.double := rfl
  simp [binOp, Op.floatCmp, e, h, h1, h2, h3, bne]
theorem run_fgtr {t : TypeId} {p q : Nat} {a b : Int} (w : World) (hp : fv p = some a) (hq : fv q = some b) : (binOp .gtr t (.float .f64 p) (.float .f64 q)).run P w = .ok (.bool (decide (b < a))) w := by
  have h := order_exact hp hq
  obtain ⟨h1, h2, h3⟩ := cmp_beq a b
  have e : FloatKind.format .f64 = Ieee.double := rfl
  simp [binOp, Op.floatCmp, e, h, h1, h2, h3, bne]
theorem run_fleq {t : TypeId} {p q : Nat} {a b : Int} (w : World) (hp : fv p = some a) (hq : fv q = some b) : (binOp .leq t (.float .f64 p) (.float .f64 q)).run P w = .ok (.bool (decide (a ≤ b))) w := by
  have h := order_exact hp hq
  obtain ⟨h1, h2, h3⟩ := cmp_beq a b
  have e : FloatKind.format .f64 = Ieee.double := rfl
  simp [binOp, Op.floatCmp, e, h, h1, h2, h3, bne]
  try (rw [← Bool.decide_or]; congr 1; apply propext; constructor <;> intro h4 <;> omega)
theorem run_fgeq {t : TypeId} {p q : Nat} {a b : Int} (w : World) (hp : fv p = some a) (hq : fv q = some b) : (binOp .geq t (.float .f64 p) (.float .f64 q)).run P w = .ok (.bool (decide (b ≤ a))) w := by
  have h := order_exact hp hq
  obtain ⟨h1, h2, h3⟩ := cmp_beq a b
  have e : FloatKind.format .f64 = Ieee.double := rfl
  simp [binOp, Op.floatCmp, e, h, h1, h2, h3, bne]
  try (rw [← Bool.decide_or]; congr 1; apply propext; constructor <;> intro h4 <;> omega)
theorem l_flss {t yt : TypeId} {x y : Operand} {p q : Nat} {a b : Int} (hw : wantG ops m g = some true) (hx : ev m x = some (.float .f64 p)) (hy : ev m y = some (.float .f64 q)) (hd : Nat.blt d n = true) (hp : fv p = some a) (hq : fv q = some b)
    (h : RunL G n P ops Q rest ((d, .bool (decide (a < b))) :: m) L F) : RunL G n P ops Q (⟨some d, .binOp .lss t x y yt, ty, pos, af, g⟩ :: rest) m L F :=
  l_bin hw hx hy hd (fun w => guard_flt w) (fun w => run_flss w hp hq) h
theorem l_feql {t yt : TypeId} {x y : Operand} {p q : Nat} {a b : Int} (hw : wantG ops m g = some true) (hx : ev m x = some (.float .f64 p)) (hy : ev m y = some (.float .f64 q)) (hd : Nat.blt d n = true) (hp : fv p = some a) (hq : fv q = some b)
    (h : RunL G n P ops Q rest ((d, .bool (decide (a = b))) :: m) L F) : RunL G n P ops Q (⟨some d, .binOp .eql t x y yt, ty, pos, af, g⟩ :: rest) m L F :=
  l_bin hw hx hy hd (fun w => guard_flt w) (fun w => run_feql w hp hq) h
theorem l_fneq {t yt : TypeId} {x y : Operand} {p q : Nat} {a b : Int} (hw : wantG ops m g = some true) (hx : ev m x = some (.float .f64 p)) (hy : ev m y = some (.float .f64 q)) (hd : Nat.blt d n = true) (hp : fv p = some a) (hq : fv q = some b)
    (h : RunL G n P ops Q rest ((d, .bool (decide (a ≠ b))) :: m) L F) : RunL G n P ops Q (⟨some d, .binOp .neq t x y yt, ty, pos, af, g⟩ :: rest) m L F :=
  l_bin hw hx hy hd (fun w => guard_flt w) (fun w => run_fneq w hp hq) h
theorem l_fgtr {t yt : TypeId} {x y : Operand} {p q : Nat} {a b : Int} (hw : wantG ops m g = some true) (hx : ev m x = some (.float .f64 p)) (hy : ev m y = some (.float .f64 q)) (hd : Nat.blt d n = true) (hp : fv p = some a) (hq : fv q = some b)
    (h : RunL G n P ops Q rest ((d, .bool (decide (b < a))) :: m) L F) : RunL G n P ops Q (⟨some d, .binOp .gtr t x y yt, ty, pos, af, g⟩ :: rest) m L F :=
  l_bin hw hx hy hd (fun w => guard_flt w) (fun w => run_fgtr w hp hq) h
theorem l_fleq {t yt : TypeId} {x y : Operand} {p q : Nat} {a b : Int} (hw : wantG ops m g = some true) (hx : ev m x = some (.float .f64 p)) (hy : ev m y = some (.float .f64 q)) (hd : Nat.blt d n = true) (hp : fv p = some a) (hq : fv q = some b)
    (h : RunL G n P ops Q rest ((d, .bool (decide (a ≤ b))) :: m) L F) : RunL G n P ops Q (⟨some d, .binOp .leq t x y yt, ty, pos, af, g⟩ :: rest) m L F :=
  l_bin hw hx hy hd (fun w => guard_flt w) (fun w => run_fleq w hp hq) h
theorem l_fgeq {t yt : TypeId} {x y : Operand} {p q : Nat} {a b : Int} (hw : wantG ops m g = some true) (hx : ev m x = some (.float .f64 p)) (hy : ev m y = some (.float .f64 q)) (hd : Nat.blt d n = true) (hp : fv p = some a) (hq : fv q = some b)
    (h : RunL G n P ops Q rest ((d, .bool (decide (b ≤ a))) :: m) L F) : RunL G n P ops Q (⟨some d, .binOp .geq t x y yt, ty, pos, af, g⟩ :: rest) m L F :=
  l_bin hw hx hy hd (fun w => guard_flt w) (fun w => run_fgeq w hp hq) h
theorem l_fneg {t : TypeId} {x : Operand} {p : Nat} (hw : wantG ops m g = some true) (hx : ev m x = some (.float .f64 p)) (hd : Nat.blt d n = true)
    (h : RunL G n P ops Q rest ((d, .float .f64 (Op.negFloat .f64 p)) :: m) L F) : RunL G n P ops Q (⟨some d, .unOp .neg t x, ty, pos, af, g⟩ :: rest) m L F :=
  l_val (.float .f64 (Op.negFloat .f64 p)) hw hd (fun a w s => by simp [execOp, s.env.eval hx, Op.unary]) h
theorem l_fint {src dst : TypeId} {x : Operand} {k : IntKind} {p : Nat} {z : Int} (hs : (P.underlying src).isSome = true) (ht : P.underlying dst = some (.int k)) (hw : wantG ops m g = some true) (hx : ev m x = some (.float .f64 p)) (hd : Nat.blt d n = true)
    (hz : floatToIntVal .f64 p k = some z) (h : RunL G n P ops Q rest ((d, .int k z) :: m) L F) : RunL G n P ops Q (⟨some d, .convert src dst x, ty, pos, af, g⟩ :: rest) m L F :=
  l_val (.int k z) hw hd (fun a w s => by simp [execOp, s.env.eval hx, run_convert_float_int w src dst .f64 k p z hs ht hz]) h
theorem l_ifl {src dst : TypeId} {x : Operand} {k : IntKind} {z : Int} (hs : (P.underlying src).isSome = true) (ht : P.underlying dst = some (.float .f64)) (hw : wantG ops m g = some true) (hx : ev m x = some (.int k z)) (hd : Nat.blt d n = true)
    (h : RunL G n P ops Q rest ((d, .float .f64 (floatOfInt .f64 z)) :: m) L F) : RunL G n P ops Q (⟨some d, .convert src dst x, ty, pos, af, g⟩ :: rest) m L F :=
  l_val (.float .f64 (floatOfInt .f64 z)) hw hd (fun a w s => by
    obtain ⟨u, hu⟩ := Option.isSome_iff_exists.1 hs
    cases u <;> simp [execOp, s.env.eval hx, convert, run_underlying hu, run_underlying ht, Conv.intToFloat, floatOfInt]) h
def isNan (x : Nat) : Prop := ∃ s f, Ieee.double.read x = .nan s f
theorem nan_cut (t : Nat) : isNan ((t % 2) * 2 ^ 63 + 0x7ff0000000000000 + 1 + (t / 2) % (2 ^ 52 - 1)) := by
  have e63 : (2 : Nat) ^ 63 = 9223372036854775808 := by decide
  have e52 : (2 : Nat) ^ 52 - 1 = 4503599627370495 := by decide
  rw [e63, e52]
  unfold isNan Ieee.Format.read
  rw [sw, bn, ir, lp]
  generalize hx : t % 2 * 9223372036854775808 + 9218868437227405312 + 1 + t / 2 % 4503599627370495 = x
  have h1 : 9218868437227405312 < x % 9223372036854775808 := by
    have h2 : t / 2 % 4503599627370495 < 4503599627370495 := Nat.mod_lt _ (by decide)
    have h0 : t % 2 = 0 ∨ t % 2 = 1 := by omega
    revert hx h2 h0
    generalize t / 2 % 4503599627370495 = k
    generalize t % 2 = b
    intro hx h2 h0
    rcases h0 with h0 | h0 <;> subst h0 <;> omega
  refine ⟨x / 9223372036854775808 % 2 == 1, x % 9223372036854775808 - 9218868437227405312, ?_⟩
  dsimp only
  rw [if_neg (by omega), if_neg (by omega), if_neg (by omega)]
theorem nan_order {x : Nat} (h : isNan x) (y : Nat) : Ieee.double.order x y = none := by
  obtain ⟨s, f, h⟩ := h
  unfold Ieee.Format.order
  rw [h]
  cases Ieee.double.read y <;> rfl
theorem l_fieldV {t : TypeId} {fs : Array Field} [u : Und P t (.struct fs)] {x : Operand} {vs : Array Value} {v : Value} {j : Nat} {fn : String} {ft : TypeId} {fo : Nat} {fe : Bool} {fg fp : String} {fb : Nat} {D : TypeDesc} (hw : wantG ops m g = some true) (hx : ev m x = some (.agg vs))
    (hf : fs[j]? = some ⟨fn, ft, fo, fe, fg, fp, fb⟩) (uf : Und P ft D) (hD : aggD D = false) (hv : vs[fo]? = some v) (hd : Nat.blt d n = true) (h : RunL G n P ops Q rest ((d, v) :: m) L F) : RunL G n P ops Q (⟨some d, .field t x j, ty, pos, af, g⟩ :: rest) m L F :=
  l_val v hw hd (fun a w s => by simp [execOp, s.env.eval hx, Instr.field, run_underlying u.out, hf, part, run_isAgg uf, hD, hv, asAgg]) h
theorem l_fieldA {t : TypeId} {fs : Array Field} [u : Und P t (.struct fs)] {x : Operand} {vs : Array Value} {j : Nat} {fn : String} {ft : TypeId} {fo : Nat} {fe : Bool} {fg fp : String} {fb : Nat} {D : TypeDesc} {z : Value} {size bytes : Nat} (hw : wantG ops m g = some true) (hx : ev m x = some (.agg vs))
    (hf : fs[j]? = some ⟨fn, ft, fo, fe, fg, fp, fb⟩) (uf : Und P ft D) (i : Inf P ft z size bytes) (hD : aggD D = true) (hd : Nat.blt d n = true) (h : RunL G n P ops Q rest ((d, .agg (vs.extract fo (fo + size))) :: m) L F) : RunL G n P ops Q (⟨some d, .field t x j, ty, pos, af, g⟩ :: rest) m L F :=
  l_val _ hw hd (fun a w s => by simp [execOp, s.env.eval hx, Instr.field, run_underlying u.out, hf, part, run_isAgg uf, hD, run_sizeOf i, asAgg]) h
theorem l_min2 {x y : Operand} {ts : Array TypeId} {k k' : IntKind} {p q : Int} (hw : wantG ops m g = some true) (hx : ev m x = some (.int k p)) (hy : ev m y = some (.int k' q)) (hd : Nat.blt d n = true)
    (h : RunL G n P ops Q rest ((d, .int k (min p q)) :: m) L F) : RunL G n P ops Q (⟨some d, .call ⟨.builtin .min, #[x, y], ts⟩, ty, pos, af, g⟩ :: rest) m L F :=
  l_val _ hw hd (fun a w s => by
    have e : min p q = if q < p then q else p := by rw [Int.min_def]; split <;> split <;> omega
    simp [execOp, s.env.eval hx, s.env.eval hy, resolve, invoke, builtin, run_min_int2, e]) h
theorem l_max2 {x y : Operand} {ts : Array TypeId} {k k' : IntKind} {p q : Int} (hw : wantG ops m g = some true) (hx : ev m x = some (.int k p)) (hy : ev m y = some (.int k' q)) (hd : Nat.blt d n = true)
    (h : RunL G n P ops Q rest ((d, .int k (max p q)) :: m) L F) : RunL G n P ops Q (⟨some d, .call ⟨.builtin .max, #[x, y], ts⟩, ty, pos, af, g⟩ :: rest) m L F :=
  l_val _ hw hd (fun a w s => by
    have e : max p q = if p < q then q else p := by rw [Int.max_def]; split <;> split <;> omega
    simp [execOp, s.env.eval hx, s.env.eval hy, resolve, invoke, builtin, run_max_int2, e]) h
end
end Go.Proofs.YtbllgmcpebifhaaGreatDoor.K
end

section
/- The engine, part n: complex numbers, functions without a text. -/
namespace Go.Proofs.YtbllgmcpebifhaaGreatDoor.K
open Go Go.RowKit
set_option linter.all false
set_option maxRecDepth 10000

/-- A wide number of two words. -/
def cx (p : Nat × Nat) : Value := .complex .f64 p.1 p.2
def rCx : Rep (Nat × Nat) := ⟨fun x cs _ _ => cs = [cx x], fun h _ => h⟩

section
variable {G : Ctx} {n : Nat} {P : Program} {ops : Array Oper} {Q : Post} {rest : List Oper} {m : Regs} {L L' : List Own} {F : List Fact}
variable {d : Nat} {ty : TypeId} {pos : String} {af : Array Edge} {g : Option (Nat × Bool)} {v : Value}
theorem l_cplx {x y : Operand} {ts : Array TypeId} {p q : Nat} (hw : wantG ops m g = some true) (hx : ev m x = some (.float .f64 p)) (hy : ev m y = some (.float .f64 q)) (hd : Nat.blt d n = true)
    (h : RunL G n P ops Q rest ((d, .complex .f64 p q) :: m) L F) : RunL G n P ops Q (⟨some d, .call ⟨.builtin .complex, #[x, y], ts⟩, ty, pos, af, g⟩ :: rest) m L F :=
  l_val (.complex .f64 p q) hw hd (fun a w s => by simp [execOp, s.env.eval hx, s.env.eval hy, resolve, invoke, builtin, run_complex]) h
theorem l_real {x : Operand} {ts : Array TypeId} {p q : Nat} (hw : wantG ops m g = some true) (hx : ev m x = some (.complex .f64 p q)) (hd : Nat.blt d n = true)
    (h : RunL G n P ops Q rest ((d, .float .f64 p) :: m) L F) : RunL G n P ops Q (⟨some d, .call ⟨.builtin .real, #[x], ts⟩, ty, pos, af, g⟩ :: rest) m L F :=
  l_val (.float .f64 p) hw hd (fun a w s => by simp [execOp, s.env.eval hx, resolve, invoke, builtin, run_real]) h
theorem l_imag {x : Operand} {ts : Array TypeId} {p q : Nat} (hw : wantG ops m g = some true) (hx : ev m x = some (.complex .f64 p q)) (hd : Nat.blt d n = true)
    (h : RunL G n P ops Q rest ((d, .float .f64 q) :: m) L F) : RunL G n P ops Q (⟨some d, .call ⟨.builtin .imag, #[x], ts⟩, ty, pos, af, g⟩ :: rest) m L F :=
  l_val (.float .f64 q) hw hd (fun a w s => by simp [execOp, s.env.eval hx, resolve, invoke, builtin, run_imag]) h
theorem guard_cx {op : BinOp} {t : TypeId} {x y : Operand} {k k' : FloatKind} {a b c e : Nat} (w : World) : (eqGuard op t x y (.complex k a b) (.complex k' c e)).run P w = .ok () w := by
  unfold eqGuard; split <;> rfl
theorem run_ccmp_eq {p q : Nat} {a b : Int} (w : World) (hp : fv p = some a) (hq : fv q = some b) : (Op.Complex.cmp .eql .f64 p q).run P w = .ok (decide (a = b)) w := by
  have h := order_exact hp hq
  obtain ⟨h1, h2, h3⟩ := cmp_beq a b
  have e : FloatKind.format .f64 = Ieee.double := rfl
  simp [Op.Complex.cmp, Op.floatCmp, asBool, e, h, h1, h2, h3, bne]
theorem l_ceq {t yt : TypeId} {x y : Operand} {p1 p2 q1 q2 : Nat} {a1 a2 b1 b2 : Int} (hw : wantG ops m g = some true) (hx : ev m x = some (.complex .f64 p1 p2)) (hy : ev m y = some (.complex .f64 q1 q2)) (hd : Nat.blt d n = true)
    (h1 : fv p1 = some a1) (h2 : fv p2 = some a2) (h3 : fv q1 = some b1) (h4 : fv q2 = some b2)
    (h : RunL G n P ops Q rest ((d, .bool (decide (a1 = b1 ∧ a2 = b2))) :: m) L F) : RunL G n P ops Q (⟨some d, .binOp .eql t x y yt, ty, pos, af, g⟩ :: rest) m L F :=
  l_bin hw hx hy hd (fun w => guard_cx w) (fun w => by
    simp only [binOp, Op.complexOp, Sem.run_bind, run_ccmp_eq w h1 h3, run_ccmp_eq w h2 h4, Result.andThen_ok, ne_eq, not_true_eq_false, if_false]
    by_cases e1 : a1 = b1 <;> by_cases e2 : a2 = b2 <;> simp [e1, e2, run_ccmp_eq w h2 h4]) h
theorem l_cne {t yt : TypeId} {x y : Operand} {p1 p2 q1 q2 : Nat} {a1 a2 b1 b2 : Int} (hw : wantG ops m g = some true) (hx : ev m x = some (.complex .f64 p1 p2)) (hy : ev m y = some (.complex .f64 q1 q2)) (hd : Nat.blt d n = true)
    (h1 : fv p1 = some a1) (h2 : fv p2 = some a2) (h3 : fv q1 = some b1) (h4 : fv q2 = some b2)
    (h : RunL G n P ops Q rest ((d, .bool (decide (¬ (a1 = b1 ∧ a2 = b2)))) :: m) L F) : RunL G n P ops Q (⟨some d, .binOp .neq t x y yt, ty, pos, af, g⟩ :: rest) m L F :=
  l_bin hw hx hy hd (fun w => guard_cx w) (fun w => by
    simp only [binOp, Op.complexOp, Sem.run_bind, run_ccmp_eq w h1 h3, run_ccmp_eq w h2 h4, Result.andThen_ok, ne_eq, not_true_eq_false, if_false]
    by_cases e1 : a1 = b1 <;> by_cases e2 : a2 = b2 <;> simp [e1, e2, run_ccmp_eq w h2 h4]) h
theorem l_lit1C {t e : TypeId} {z : Value} {by' : Nat} [u : Und P t (.slice e)] [f : Inf P e z 1 by'] {x : Operand} {a b : Nat} (hw : wantG ops m g = some true) (hx : ev m x = some (.complex .f64 a b)) (hd : Nat.blt d n = true) (hz : z.cells = #[z])
    (h : ∀ v, RunL G n P ops Q rest ((d, v) :: m) (.row v e 1 1 ([(a, b)].map cx) :: L) F) : RunL G n P ops Q (⟨some d, .buildSlice t 1 #[(0, x)], ty, pos, af, g⟩ :: rest) m L F :=
  l_lit1 hw hx hd hz .complex h
theorem l_loadCx {t : TypeId} {D : TypeDesc} {x : Operand} {k : Nat} {y : Nat × Nat} {l : List (Nat × Nat)} [u : Und P t D] (hw : wantG ops m g = some true) (hx : ev m x = some (elemPtr v k)) (hF : fList 1 rCx v l ∈ F) (hD : aggD D = false) (hy : l[k]? = some y) (hd : Nat.blt d n = true)
    (h : RunL G n P ops Q rest ((d, .complex .f64 y.1 y.2) :: m) L F) : RunL G n P ops Q (⟨some d, .load t x, ty, pos, af, g⟩ :: rest) m L F :=
  l_loadList hw hx hF hD hy hd fun c a w st => by
    have hc : [c] = [cx y] := st.facts _ (.head _)
    injection hc with hc
    subst hc
    exact h a w (st.sub (fun _ _ h => h) fun φ h => .tail _ h)
theorem l_lit1S {t e : TypeId} {z : Value} {by' : Nat} [u : Und P t (.slice e)] [f : Inf P e z 1 by'] {x : Operand} {s : List UInt8} (hw : wantG ops m g = some true) (hx : ev m x = some (.string ⟨s.toArray⟩)) (hd : Nat.blt d n = true) (hz : z.cells = #[z])
    (h : ∀ v, RunL G n P ops Q rest ((d, v) :: m) (.row v e 1 1 ([s].map str) :: L) F) : RunL G n P ops Q (⟨some d, .buildSlice t 1 #[(0, x)], ty, pos, af, g⟩ :: rest) m L F :=
  l_lit1 hw hx hd hz .string h
theorem l_sliceS2 {t : TypeId} [u : Und P t .string] {x : Operand} {lo hi : Option Operand} {i j : Nat} {p : List UInt8} (hw : wantG ops m g = some true) (hx : ev m x = some (.string ⟨p.toArray⟩)) (hlo : EvO m lo (some i)) (hhi : EvO m hi (some j)) (hd : Nat.blt d n = true)
    (h1 : i ≤ j) (h2 : j ≤ p.length) (h : RunL G n P ops Q rest ((d, .string ⟨((p.drop i).take (j - i)).toArray⟩) :: m) L F) : RunL G n P ops Q (⟨some d, .slice t x lo hi none, ty, pos, af, g⟩ :: rest) m L F := by
  refine l_sliceStr hw hx hlo hhi hd h1 (by simpa [ByteArray.size] using h2) ?_
  have e : (⟨p.toArray⟩ : ByteArray).extract i j = ⟨((p.drop i).take (j - i)).toArray⟩ := by
    rw [Go.Lib.extract_eq]
  simp only [Option.getD_some, e]
  exact h
/-- A function without a text. -/
theorem l_ext1 {f : FuncId} {fn : Func} {e : Array Value → Sem Value} {x : Operand} {ts : Array TypeId} {u r : Value} (hf : P.funcs[f]? = some fn) (hname : (fn.name == "runtime.NumGoroutine") = false)
    (hb : fn.body.isNone = true) (hn : Extern.findNext fn = none) (he : Extern.find fn = some e) (hr : ∀ w, (e #[u]).run P w = .ok r w) (hw : wantG ops m g = some true) (hx : ev m x = some u) (hd : Nat.blt d n = true)
    (h : RunL G n P ops Q rest ((d, r) :: m) L F) : RunL G n P ops Q (⟨some d, .call ⟨.value (.func f), #[x], ts⟩, ty, pos, af, g⟩ :: rest) m L F :=
  l_val r hw hd (fun a w s => by
    have h1 := run_callFunc_extern hf hname hb hn he #[u] w
    rw [hr w] at h1
    have hv : a.eval x = u := s.env.eval hx
    have hff : a.eval (.func f) = .func (.func f) #[] #[] := rfl
    simp only [execOp, resolve, hff, Deferred.ofValue, invoke, Sem.run_bind, Sem.run_pure, Result.andThen_ok, Array.map_singleton, List.map_toArray, List.map_cons, List.map_nil, hv]
    exact h1) h
theorem l_andA {t yt : TypeId} {x y : Operand} {k : IntKind} {p q z : Int} (hw : wantG ops m g = some true) (hx : ev m x = some (.int k p)) (hy : ev m y = some (.int k q)) (hd : Nat.blt d n = true)
    (hz : bits .and k p q = z) (h : RunL G n P ops Q rest ((d, .int k z) :: m) L F) : RunL G n P ops Q (⟨some d, .binOp .and t x y yt, ty, pos, af, g⟩ :: rest) m L F := l_bits (.inl rfl) hw hx hy hd hz h
theorem l_andNotA {t yt : TypeId} {x y : Operand} {k : IntKind} {p q z : Int} (hw : wantG ops m g = some true) (hx : ev m x = some (.int k p)) (hy : ev m y = some (.int k q)) (hd : Nat.blt d n = true)
    (hz : bits .andNot k p q = z) (h : RunL G n P ops Q rest ((d, .int k z) :: m) L F) : RunL G n P ops Q (⟨some d, .binOp .andNot t x y yt, ty, pos, af, g⟩ :: rest) m L F := l_bits (.inr (.inr (.inr rfl))) hw hx hy hd hz h
theorem l_shr52 {t yt : TypeId} {x y : Operand} {k' : IntKind} {p q : Int} (hw : wantG ops m g = some true) (hx : ev m x = some (.int .u64 p)) (hy : ev m y = some (.int k' q)) (hd : Nat.blt d n = true) (hq : decide (q = 52) = true)
    (h : RunL G n P ops Q rest ((d, .int .u64 (p / 4503599627370496)) :: m) L F) : RunL G n P ops Q (⟨some d, .binOp .shr t x y yt, ty, pos, af, g⟩ :: rest) m L F := by
  obtain rfl := of_decide_eq_true hq
  exact l_shr hw hx hy hd (by decide) (Int.fdiv_eq_ediv_of_nonneg _ (by decide)) h
theorem l_shl52 {t yt : TypeId} {x y : Operand} {k' : IntKind} {p q z : Int} (hw : wantG ops m g = some true) (hx : ev m x = some (.int .u64 p)) (hy : ev m y = some (.int k' q)) (hd : Nat.blt d n = true) (hq : decide (q = 52) = true)
    (hz : IntKind.u64.wrap (p * 4503599627370496) = z) (h : RunL G n P ops Q rest ((d, .int .u64 z) :: m) L F) : RunL G n P ops Q (⟨some d, .binOp .shl t x y yt, ty, pos, af, g⟩ :: rest) m L F := by
  obtain rfl := of_decide_eq_true hq
  exact l_shl hw hx hy hd (by decide) hz h
/-- A float's word, and back. -/
theorem l_f64bits {x : Operand} {ts : Array TypeId} {p : Nat} (hw : wantG ops m g = some true) (hx : ev m x = some (.float .f64 p)) (hd : Nat.blt d n = true)
    (h : RunL G n Tryz.prog ops Q rest ((d, .int .u64 (p : Int)) :: m) L F) : RunL G n Tryz.prog ops Q (⟨some d, .call ⟨.value (.func 223), #[x], ts⟩, ty, pos, af, g⟩ :: rest) m L F :=
  l_ext1 (e := Extern.MathFloatBits.float64bits) Tryz.func223 (by kernel_rfl) (by kernel_rfl) (by kernel_rfl) (by kernel_rfl) (fun _ => rfl) hw hx hd h
theorem l_f64from {x : Operand} {ts : Array TypeId} {z : Int} {p : Nat} (hw : wantG ops m g = some true) (hx : ev m x = some (.int .u64 z)) (hd : Nat.blt d n = true) (hz : z.toNat = p)
    (h : RunL G n Tryz.prog ops Q rest ((d, .float .f64 p) :: m) L F) : RunL G n Tryz.prog ops Q (⟨some d, .call ⟨.value (.func 222), #[x], ts⟩, ty, pos, af, g⟩ :: rest) m L F :=
  l_ext1 (e := Extern.MathFloatBits.float64frombits) Tryz.func222 (by kernel_rfl) (by kernel_rfl) (by kernel_rfl) (by kernel_rfl) (fun _ => by subst hz; rfl) hw hx hd h
end
end Go.Proofs.YtbllgmcpebifhaaGreatDoor.K
end
