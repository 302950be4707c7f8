/- The engine, part b: the rules of operations that leave the world alone. -/
import Derived.Test.YtbllgmcpebifhaaDoorKa
namespace Go.Proofs.YtbllgmcpebifhaaDoor.K
open Go Go.RowKit
set_option linter.all false

/-- The mark of a guard. -/
def wantG (ops : Array Oper) (m : Regs) (g : Option (Nat × Bool)) : Option Bool :=
  match g with
  | none => some true
  | some (j, want) => match (ops[j]?).bind (·.dst) with
    | none => none
    | some t => match look m t with
      | some (.bool b) => some (b == want)
      | some (.tuple _) => some false
      | _ => none

section
variable {G : Ctx} {n : Nat} {P : Program} {ops : Array Oper} {Q : Post} {rest : List Oper} {m : Regs} {L : List Own} {F : List Fact}
variable {d : Nat} {ty : TypeId} {pos : String} {af : Array Edge} {g : Option (Nat × Bool)}

theorem wantG_eq {a : Act} {o : Oper} {b : Bool} (h : Env n m a) (hg : o.guard = g) (hw : wantG ops m g = some b) : Region.wanted o (yielded ops a.tmps) = b :=
  wants_eq h (by unfold wants; rw [hg]; exact hw)

/-- An operation that yields a value and may turn the world. -/
theorem l_step {op : Op} (hw : wantG ops m g = some true)
    (hrun : ∀ a w, St G n m L F a w → ∃ v w', (execOp a.eval ⟨some d, op, ty, pos, af, g⟩).run P w = .ok (.value v) w' ∧ wpList P ops Q rest (a.put (some d) v) w') :
    RunL G n P ops Q (⟨some d, op, ty, pos, af, g⟩ :: rest) m L F := by
  intro a w s
  have hwa := wantG_eq (o := ⟨some d, op, ty, pos, af, g⟩) s.env rfl hw
  refine wpList_step fun K hK => ?_
  rw [if_pos hwa]
  obtain ⟨v, w', hr, hn⟩ := hrun a w s
  unfold Oper.wp
  rw [hr, Oper.upon_value]
  exact hK _ _ hn

theorem St.put {a : Act} {w : World} (s : St G n m L F a w) (hd : Nat.blt d n = true) (v : Value) : St G n ((d, v) :: m) L F (a.put (some d) v) w :=
  ⟨s.env.put (Nat.le_of_ble_eq_true hd) v, s.keep, s.own, s.mine, s.x, s.facts⟩

theorem l_val {op : Op} (v : Value) (hw : wantG ops m g = some true) (hd : Nat.blt d n = true)
    (hrun : ∀ a w, St G n m L F a w → (execOp a.eval ⟨some d, op, ty, pos, af, g⟩).run P w = .ok (.value v) w)
    (h : RunL G n P ops Q rest ((d, v) :: m) L F) : RunL G n P ops Q (⟨some d, op, ty, pos, af, g⟩ :: rest) m L F :=
  l_step hw fun a w s => ⟨v, w, hrun a w s, h _ _ (s.put hd v)⟩

/-- A guarded operation that is not wanted. -/
theorem l_unwanted {op : Op} (hw : wantG ops m g = some false) (hd : Nat.blt d n = true) (h : RunL G n P ops Q rest ((d, undef) :: m) L F) :
    RunL G n P ops Q (⟨some d, op, ty, pos, af, g⟩ :: rest) m L F := by
  intro a w s
  have hwa := wantG_eq (o := ⟨some d, op, ty, pos, af, g⟩) s.env rfl hw
  refine wpList_step fun K hK => ?_
  rw [hwa]
  exact hK _ _ (h _ _ (s.put hd undef))

/-- A truth in a register is known from here on. -/
theorem l_know {t : Nat} {b : Bool} (c : Bool) (ht : look m t = some (.bool b)) (hb : b = c) (h : RunL G n P ops Q rest ((t, .bool c) :: m) L F) : RunL G n P ops Q rest m L F := by
  subst hb
  intro a w s
  refine h a w (s.sub (fun s u hs => ?_) fun _ h => h)
  rw [look_cons] at hs
  by_cases e : t = s
  · rw [if_pos e] at hs; rw [← e, ht]; exact hs
  · rw [if_neg e] at hs; exact hs
theorem l_split {t : Nat} {b : Bool} (ht : look m t = some (.bool b)) (h1 : b = true → RunL G n P ops Q rest ((t, .bool true) :: m) L F)
    (h2 : b = false → RunL G n P ops Q rest ((t, .bool false) :: m) L F) : RunL G n P ops Q rest m L F := by
  cases b with
  | true => exact l_know true ht rfl (h1 rfl)
  | false => exact l_know false ht rfl (h2 rfl)
/-- What a register holds, said otherwise. -/
theorem l_say {t : Nat} {v v' : Value} (ht : look m t = some v) (hv : v = v') (h : RunL G n P ops Q rest ((t, v') :: m) L F) : RunL G n P ops Q rest m L F := by
  subst hv
  intro a w s
  refine h a w (s.sub (fun s u hs => ?_) fun _ h => h)
  rw [look_cons] at hs
  by_cases e : t = s
  · rw [if_pos e] at hs; rw [← e, ht]; exact hs
  · rw [if_neg e] at hs; exact hs

theorem l_move {x : Operand} {v : Value} (hw : wantG ops m g = some true) (hx : ev m x = some v) (hd : Nat.blt d n = true)
    (h : RunL G n P ops Q rest ((d, v) :: m) L F) : RunL G n P ops Q (⟨some d, .move x, ty, pos, af, g⟩ :: rest) m L F :=
  l_val v hw hd (fun a w s => by simp only [execOp, s.env.eval hx]; rfl) h
theorem l_assign {x : Operand} {v : Value} (hw : wantG ops m g = some true) (hx : ev m x = some v) (hd : Nat.blt d n = true)
    (h : RunL G n P ops Q rest ((d, v) :: m) L F) : RunL G n P ops Q (⟨some d, .assign x, ty, pos, af, g⟩ :: rest) m L F :=
  l_val v hw hd (fun a w s => by simp only [execOp, s.env.eval hx]; rfl) h
theorem l_pick_true {c x y : Operand} {v : Value} (hw : wantG ops m g = some true) (hc : ev m c = some (.bool true)) (hx : ev m x = some v) (hd : Nat.blt d n = true)
    (h : RunL G n P ops Q rest ((d, v) :: m) L F) : RunL G n P ops Q (⟨some d, .pick c x y, ty, pos, af, g⟩ :: rest) m L F :=
  l_val v hw hd (fun a w s => by simp [execOp, s.env.eval hx, s.env.eval hc, asBool]) h
theorem l_pick_false {c x y : Operand} {v : Value} (hw : wantG ops m g = some true) (hc : ev m c = some (.bool false)) (hy : ev m y = some v) (hd : Nat.blt d n = true)
    (h : RunL G n P ops Q rest ((d, v) :: m) L F) : RunL G n P ops Q (⟨some d, .pick c x y, ty, pos, af, g⟩ :: rest) m L F :=
  l_val v hw hd (fun a w s => by simp [execOp, s.env.eval hy, s.env.eval hc, asBool]) h

/-- A binary operation. -/
theorem l_bin {op : BinOp} {t yt : TypeId} {x y : Operand} {vx vy v : Value} (hw : wantG ops m g = some true) (hx : ev m x = some vx) (hy : ev m y = some vy) (hd : Nat.blt d n = true)
    (hg : ∀ w, (eqGuard op t x y vx vy).run P w = .ok () w) (hr : ∀ w, (binOp op t vx vy).run P w = .ok v w)
    (h : RunL G n P ops Q rest ((d, v) :: m) L F) : RunL G n P ops Q (⟨some d, .binOp op t x y yt, ty, pos, af, g⟩ :: rest) m L F :=
  l_val v hw hd (fun a w s => by simp [execOp, s.env.eval hx, s.env.eval hy, hg, hr]) h

theorem guard_int {op : BinOp} {t : TypeId} {x y : Operand} {k k' : IntKind} {a b : Int} (w : World) : (eqGuard op t x y (.int k a) (.int k' b)).run P w = .ok () w := by
  unfold eqGuard; split <;> rfl
theorem guard_bool {op : BinOp} {t : TypeId} {x y : Operand} {a b : Bool} (w : World) : (eqGuard op t x y (.bool a) (.bool b)).run P w = .ok () w := by
  unfold eqGuard; split <;> rfl
theorem guard_str {op : BinOp} {t : TypeId} {x y : Operand} {a b : ByteArray} (w : World) : (eqGuard op t x y (.string a) (.string b)).run P w = .ok () w := by
  unfold eqGuard; split <;> rfl

theorem l_add {t yt : TypeId} {x y : Operand} {k : IntKind} {p q z : Int} (hw : wantG ops m g = some true) (hx : ev m x = some (.int k p)) (hy : ev m y = some (.int k q)) (hd : Nat.blt d n = true)
    (hz : k.wrap (p + q) = z) (h : RunL G n P ops Q rest ((d, .int k z) :: m) L F) : RunL G n P ops Q (⟨some d, .binOp .add t x y yt, ty, pos, af, g⟩ :: rest) m L F :=
  l_bin hw hx hy hd (fun w => guard_int w) (fun w => by simp [binOp, Op.intArith, hz]) h
theorem l_sub {t yt : TypeId} {x y : Operand} {k : IntKind} {p q z : Int} (hw : wantG ops m g = some true) (hx : ev m x = some (.int k p)) (hy : ev m y = some (.int k q)) (hd : Nat.blt d n = true)
    (hz : k.wrap (p - q) = z) (h : RunL G n P ops Q rest ((d, .int k z) :: m) L F) : RunL G n P ops Q (⟨some d, .binOp .sub t x y yt, ty, pos, af, g⟩ :: rest) m L F :=
  l_bin hw hx hy hd (fun w => guard_int w) (fun w => by simp [binOp, Op.intArith, hz]) h
theorem l_mul {t yt : TypeId} {x y : Operand} {k : IntKind} {p q z : Int} (hw : wantG ops m g = some true) (hx : ev m x = some (.int k p)) (hy : ev m y = some (.int k q)) (hd : Nat.blt d n = true)
    (hz : k.wrap (p * q) = z) (h : RunL G n P ops Q rest ((d, .int k z) :: m) L F) : RunL G n P ops Q (⟨some d, .binOp .mul t x y yt, ty, pos, af, g⟩ :: rest) m L F :=
  l_bin hw hx hy hd (fun w => guard_int w) (fun w => by simp [binOp, Op.intArith, hz]) h
theorem l_quo {t yt : TypeId} {x y : Operand} {k : IntKind} {p q z : Int} (hw : wantG ops m g = some true) (hx : ev m x = some (.int k p)) (hy : ev m y = some (.int k q)) (hd : Nat.blt d n = true) (h0 : q ≠ 0)
    (hz : k.wrap (p.tdiv q) = z) (h : RunL G n P ops Q rest ((d, .int k z) :: m) L F) : RunL G n P ops Q (⟨some d, .binOp .quo t x y yt, ty, pos, af, g⟩ :: rest) m L F :=
  l_bin hw hx hy hd (fun w => guard_int w) (fun w => by simp [binOp, Op.intDiv, hz, h0]) h
theorem l_rem {t yt : TypeId} {x y : Operand} {k : IntKind} {p q z : Int} (hw : wantG ops m g = some true) (hx : ev m x = some (.int k p)) (hy : ev m y = some (.int k q)) (hd : Nat.blt d n = true) (h0 : q ≠ 0)
    (hz : p.tmod q = z) (h : RunL G n P ops Q rest ((d, .int k z) :: m) L F) : RunL G n P ops Q (⟨some d, .binOp .rem t x y yt, ty, pos, af, g⟩ :: rest) m L F :=
  l_bin hw hx hy hd (fun w => guard_int w) (fun w => by simp [binOp, Op.intDiv, hz, h0]) h
theorem l_bits {op : BinOp} {t yt : TypeId} {x y : Operand} {k : IntKind} {p q z : Int} (hop : op = .and ∨ op = .or ∨ op = .xor ∨ op = .andNot) (hw : wantG ops m g = some true) (hx : ev m x = some (.int k p)) (hy : ev m y = some (.int k q)) (hd : Nat.blt d n = true)
    (hz : bits op k p q = z) (h : RunL G n P ops Q rest ((d, .int k z) :: m) L F) : RunL G n P ops Q (⟨some d, .binOp op t x y yt, ty, pos, af, g⟩ :: rest) m L F :=
  l_bin hw hx hy hd (fun w => guard_int w) (fun w => by rcases hop with rfl | rfl | rfl | rfl <;> (subst hz; simp [binOp, go_sem])) h
theorem l_shl {t yt : TypeId} {x y : Operand} {k k' : IntKind} {p q z : Int} (hw : wantG ops m g = some true) (hx : ev m x = some (.int k p)) (hy : ev m y = some (.int k' q)) (hd : Nat.blt d n = true) (h0 : 0 ≤ q)
    (hz : k.wrap (p * 2 ^ (min q.toNat k.bits)) = z) (h : RunL G n P ops Q rest ((d, .int k z) :: m) L F) : RunL G n P ops Q (⟨some d, .binOp .shl t x y yt, ty, pos, af, g⟩ :: rest) m L F :=
  l_bin hw hx hy hd (fun w => guard_int w) (fun w => by subst hz; have : ¬ q < 0 := by omega
                                                        simp [binOp, Op.shift, this]) h
theorem l_shr {t yt : TypeId} {x y : Operand} {k k' : IntKind} {p q z : Int} (hw : wantG ops m g = some true) (hx : ev m x = some (.int k p)) (hy : ev m y = some (.int k' q)) (hd : Nat.blt d n = true) (h0 : 0 ≤ q)
    (hz : p.fdiv (2 ^ (min q.toNat k.bits)) = z) (h : RunL G n P ops Q rest ((d, .int k z) :: m) L F) : RunL G n P ops Q (⟨some d, .binOp .shr t x y yt, ty, pos, af, g⟩ :: rest) m L F :=
  l_bin hw hx hy hd (fun w => guard_int w) (fun w => by subst hz; have : ¬ q < 0 := by omega
                                                        simp [binOp, Op.shift, this]) h

def cmpI : BinOp → Int → Int → Bool
  | .eql, x, y => x == y
  | .neq, x, y => x != y
  | .lss, x, y => decide (x < y)
  | .leq, x, y => decide (x ≤ y)
  | .gtr, x, y => decide (x > y)
  | .geq, x, y => decide (x ≥ y)
  | _, _, _ => false
def isCmp : BinOp → Bool
  | .eql | .neq | .lss | .leq | .gtr | .geq => true
  | _ => false
theorem l_cmp {op : BinOp} {t yt : TypeId} {x y : Operand} {k : IntKind} {p q : Int} {b : Bool} (hop : isCmp op = true) (hw : wantG ops m g = some true) (hx : ev m x = some (.int k p)) (hy : ev m y = some (.int k q)) (hd : Nat.blt d n = true)
    (hb : cmpI op p q = b) (h : RunL G n P ops Q rest ((d, .bool b) :: m) L F) : RunL G n P ops Q (⟨some d, .binOp op t x y yt, ty, pos, af, g⟩ :: rest) m L F :=
  l_bin hw hx hy hd (fun w => guard_int w) (fun w => by subst hb; cases op <;> simp_all [isCmp, binOp, Op.intCmp, cmpI]) h
theorem l_eqStr {t yt : TypeId} {x y : Operand} {p q : ByteArray} {b : Bool} (hw : wantG ops m g = some true) (hx : ev m x = some (.string p)) (hy : ev m y = some (.string q)) (hd : Nat.blt d n = true)
    (hb : (p.toList == q.toList) = b) (h : RunL G n P ops Q rest ((d, .bool b) :: m) L F) : RunL G n P ops Q (⟨some d, .binOp .eql t x y yt, ty, pos, af, g⟩ :: rest) m L F :=
  l_bin hw hx hy hd (fun w => guard_str w) (fun w => by subst hb; simp [binOp, Op.stringOp]) h
theorem l_neStr {t yt : TypeId} {x y : Operand} {p q : ByteArray} {b : Bool} (hw : wantG ops m g = some true) (hx : ev m x = some (.string p)) (hy : ev m y = some (.string q)) (hd : Nat.blt d n = true)
    (hb : (!(p.toList == q.toList)) = b) (h : RunL G n P ops Q rest ((d, .bool b) :: m) L F) : RunL G n P ops Q (⟨some d, .binOp .neq t x y yt, ty, pos, af, g⟩ :: rest) m L F :=
  l_bin hw hx hy hd (fun w => guard_str w) (fun w => by subst hb; simp [binOp, Op.stringOp]) h
theorem l_cat {t yt : TypeId} {x y : Operand} {p q : ByteArray} (hw : wantG ops m g = some true) (hx : ev m x = some (.string p)) (hy : ev m y = some (.string q)) (hd : Nat.blt d n = true) (hle : p.size + q.size ≤ 9223372036854775807)
    (h : RunL G n P ops Q rest ((d, .string (p ++ q)) :: m) L F) : RunL G n P ops Q (⟨some d, .binOp .add t x y yt, ty, pos, af, g⟩ :: rest) m L F :=
  l_bin hw hx hy hd (fun w => guard_str w) (fun w => by have : ((p.size : Int) + (q.size : Int)) ≤ 9223372036854775807 := by omega
                                                        simp [binOp, Op.stringOp, this]) h
theorem run_equalIn_bool {t : TypeId} (e : Nat) (a b : Bool) (ht : P.underlying t = some .bool) (w : World) : (Op.equalIn (e + 1) t (.bool a) (.bool b)).run P w = .ok (a == b) w := by
  simp [Op.equalIn, run_underlying ht]
theorem run_eql_bool {t : TypeId} (a b : Bool) (ht : P.underlying t = some .bool) (w : World) : (binOp .eql t (.bool a) (.bool b)).run P w = .ok (.bool (a == b)) w := by
  simp only [binOp]
  simp [Op.equal, Op.maxDepth, run_equalIn_bool 9999 a b ht w]
theorem run_neq_bool {t : TypeId} (a b : Bool) (ht : P.underlying t = some .bool) (w : World) : (binOp .neq t (.bool a) (.bool b)).run P w = .ok (.bool (!(a == b))) w := by
  simp only [binOp]
  simp [Op.equal, Op.maxDepth, run_equalIn_bool 9999 a b ht w]
theorem l_eqBool {t yt : TypeId} {x y : Operand} {p q b : Bool} (ht : P.underlying t = some .bool) (hw : wantG ops m g = some true) (hx : ev m x = some (.bool p)) (hy : ev m y = some (.bool q)) (hd : Nat.blt d n = true)
    (hb : (p == q) = b) (h : RunL G n P ops Q rest ((d, .bool b) :: m) L F) : RunL G n P ops Q (⟨some d, .binOp .eql t x y yt, ty, pos, af, g⟩ :: rest) m L F :=
  l_bin hw hx hy hd (fun w => guard_bool w) (fun w => by subst hb; exact run_eql_bool p q ht w) h
theorem l_neBool {t yt : TypeId} {x y : Operand} {p q b : Bool} (ht : P.underlying t = some .bool) (hw : wantG ops m g = some true) (hx : ev m x = some (.bool p)) (hy : ev m y = some (.bool q)) (hd : Nat.blt d n = true)
    (hb : (!(p == q)) = b) (h : RunL G n P ops Q rest ((d, .bool b) :: m) L F) : RunL G n P ops Q (⟨some d, .binOp .neq t x y yt, ty, pos, af, g⟩ :: rest) m L F :=
  l_bin hw hx hy hd (fun w => guard_bool w) (fun w => by subst hb; exact run_neq_bool p q ht w) h

theorem l_not {t : TypeId} {x : Operand} {p b : Bool} (hw : wantG ops m g = some true) (hx : ev m x = some (.bool p)) (hd : Nat.blt d n = true)
    (hb : (!p) = b) (h : RunL G n P ops Q rest ((d, .bool b) :: m) L F) : RunL G n P ops Q (⟨some d, .unOp .not t x, ty, pos, af, g⟩ :: rest) m L F :=
  l_val (.bool b) hw hd (fun a w s => by subst hb; simp [execOp, s.env.eval hx, Op.unary]) h
theorem l_neg {t : TypeId} {x : Operand} {k : IntKind} {p z : Int} (hw : wantG ops m g = some true) (hx : ev m x = some (.int k p)) (hd : Nat.blt d n = true)
    (hz : k.wrap (0 - p) = z) (h : RunL G n P ops Q rest ((d, .int k z) :: m) L F) : RunL G n P ops Q (⟨some d, .unOp .neg t x, ty, pos, af, g⟩ :: rest) m L F :=
  l_val (.int k z) hw hd (fun a w s => by subst hz; simp [execOp, s.env.eval hx, Op.unary, Op.intArith]) h
theorem l_conv {src dst : TypeId} {x : Operand} {j k : IntKind} {p z : Int} (hs : (P.underlying src).isSome = true) (ht : P.underlying dst = some (.int k)) (hw : wantG ops m g = some true) (hx : ev m x = some (.int j p)) (hd : Nat.blt d n = true)
    (hz : k.wrap p = z) (h : RunL G n P ops Q rest ((d, .int k z) :: m) L F) : RunL G n P ops Q (⟨some d, .convert src dst x, ty, pos, af, g⟩ :: rest) m L F :=
  l_val (.int k z) hw hd (fun a w s => by
    obtain ⟨u, hu⟩ := Option.isSome_iff_exists.1 hs
    subst hz
    cases u <;> simp [execOp, s.env.eval hx, convert, run_underlying hu, run_underlying ht, Conv.intToInt]) h
theorem l_extract {x : Operand} {i : Nat} {vs : Array Value} {v : Value} (hw : wantG ops m g = some true) (hx : ev m x = some (.tuple vs)) (hv : vs[i]? = some v) (hd : Nat.blt d n = true)
    (h : RunL G n P ops Q rest ((d, v) :: m) L F) : RunL G n P ops Q (⟨some d, .extract x i, ty, pos, af, g⟩ :: rest) m L F :=
  l_val v hw hd (fun a w s => by simp [execOp, s.env.eval hx, Instr.extract, hv]) h
theorem l_nilCheck {x : Operand} {ad : Addr} (hw : wantG ops m g = some true) (hx : ev m x = some (.pointer (some ad))) (hd : Nat.blt d n = true)
    (h : RunL G n P ops Q rest ((d, .pointer (some ad)) :: m) L F) : RunL G n P ops Q (⟨some d, .nilCheck x, ty, pos, af, g⟩ :: rest) m L F :=
  l_val _ hw hd (fun a w s => by simp [execOp, s.env.eval hx]) h
theorem l_lenSlice {t : TypeId} {x : Operand} {ad : Option Addr} {k c : Nat} (ht : ∃ e, P.underlying t = some (.slice e)) (hw : wantG ops m g = some true) (hx : ev m x = some (.slice ad k c)) (hd : Nat.blt d n = true)
    (h : RunL G n P ops Q rest ((d, .int .i64 (k : Int)) :: m) L F) : RunL G n P ops Q (⟨some d, .call ⟨.builtin .len, #[x], #[t]⟩, ty, pos, af, g⟩ :: rest) m L F :=
  l_val _ hw hd (fun a w s => by
    obtain ⟨e, ht⟩ := ht
    simp [execOp, s.env.eval hx, resolve, invoke, builtin, Builtin.len_, run_underlying ht, goInt]) h
theorem l_lenStr {t : TypeId} {x : Operand} {p : ByteArray} (ht : P.underlying t = some .string) (hw : wantG ops m g = some true) (hx : ev m x = some (.string p)) (hd : Nat.blt d n = true)
    (h : RunL G n P ops Q rest ((d, .int .i64 (p.size : Int)) :: m) L F) : RunL G n P ops Q (⟨some d, .call ⟨.builtin .len, #[x], #[t]⟩, ty, pos, af, g⟩ :: rest) m L F :=
  l_val _ hw hd (fun a w s => by simp [execOp, s.env.eval hx, resolve, invoke, builtin, Builtin.len_, run_underlying ht, goInt]) h
theorem l_indexStr {t : TypeId} {x i : Operand} {p : ByteArray} {k : IntKind} {q : Int} {b : UInt8} (ht : P.underlying t = some .string) (hw : wantG ops m g = some true) (hx : ev m x = some (.string p)) (hi : ev m i = some (.int k q)) (hd : Nat.blt d n = true)
    (h0 : 0 ≤ q) (hb : p[q.toNat]? = some b) (h : RunL G n P ops Q rest ((d, .int .u8 (b.toNat : Int)) :: m) L F) : RunL G n P ops Q (⟨some d, .index t x i, ty, pos, af, g⟩ :: rest) m L F :=
  l_val _ hw hd (fun a w s => by simp [execOp, s.env.eval hx, s.env.eval hi, Instr.index, asIntOf, run_underlying ht, h0, hb]) h
end
end Go.Proofs.YtbllgmcpebifhaaDoor.K
