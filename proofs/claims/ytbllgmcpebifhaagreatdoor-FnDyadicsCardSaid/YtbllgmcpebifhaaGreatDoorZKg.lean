/- The engine, part g: rules in the form that scripts use: comparisons as propositions, sums that do not wrap. -/
import Derived.Test.YtbllgmcpebifhaaGreatDoorZKa
import Derived.Orders
import Derived.Laws.BytesArg
import Derived.Lib.ItoaMem
import Derived.Lib.Strings
import Derived.Lib.ItoaLen
import Derived.Laws.BitsAllLaws
import Derived.WalkKit
import Derived.ProofKit
import Derived.OpenShut
import Derived.ChangeStays
import Derived.ChangeSlices
import Derived.ChangeOld
import Derived.Deep.DeepHandedRow
import Derived.Lib.LaidTab

section
namespace Go.Proofs.YtbllgmcpebifhaaGreatDoor.K
open Go Go.RowKit
set_option linter.all false

theorem w_i64 {x : Int} (h : -9223372036854775808 ≤ x ∧ x ≤ 9223372036854775807) : IntKind.i64.wrap x = x := by rw [IntKind.wrap_i64]; omega
theorem w_u64 {x : Int} (h : 0 ≤ x ∧ x ≤ 18446744073709551615) : IntKind.u64.wrap x = x := by rw [IntKind.wrap_u64]; omega
theorem w_u32 {x : Int} (h : 0 ≤ x ∧ x ≤ 4294967295) : IntKind.u32.wrap x = x := by rw [IntKind.wrap_u32]; omega
theorem w_i32 {x : Int} (h : -2147483648 ≤ x ∧ x ≤ 2147483647) : IntKind.i32.wrap x = x := by rw [IntKind.wrap_i32]; omega
theorem w_u8 {x : Int} (h : 0 ≤ x ∧ x ≤ 255) : IntKind.u8.wrap x = x := by rw [IntKind.wrap_u8]; omega

theorem m_u32 (x : Int) : IntKind.u32.wrap x = x % 4294967296 := rfl
theorem m_u64 (x : Int) : IntKind.u64.wrap x = x % 18446744073709551616 := rfl
theorem m_u8 (x : Int) : IntKind.u8.wrap x = x % 256 := rfl
inductive Regs0 : List Value → Regs → Prop
  | n0 : Regs0 [] []
  | n1 {v0 : Value} : Regs0 [v0] [(0, v0)]
  | n2 {v0 v1 : Value} : Regs0 [v0, v1] [(0, v0), (1, v1)]
  | n3 {v0 v1 v2 : Value} : Regs0 [v0, v1, v2] [(0, v0), (1, v1), (2, v2)]
  | n4 {v0 v1 v2 v3 : Value} : Regs0 [v0, v1, v2, v3] [(0, v0), (1, v1), (2, v2), (3, v3)]
  | n5 {v0 v1 v2 v3 v4 : Value} : Regs0 [v0, v1, v2, v3, v4] [(0, v0), (1, v1), (2, v2), (3, v3), (4, v4)]
  | n6 {v0 v1 v2 v3 v4 v5 : Value} : Regs0 [v0, v1, v2, v3, v4, v5] [(0, v0), (1, v1), (2, v2), (3, v3), (4, v4), (5, v5)]
  | n7 {v0 v1 v2 v3 v4 v5 v6 : Value} : Regs0 [v0, v1, v2, v3, v4, v5, v6] [(0, v0), (1, v1), (2, v2), (3, v3), (4, v4), (5, v5), (6, v6)]
  | n8 {v0 v1 v2 v3 v4 v5 v6 v7 : Value} : Regs0 [v0, v1, v2, v3, v4, v5, v6, v7] [(0, v0), (1, v1), (2, v2), (3, v3), (4, v4), (5, v5), (6, v6), (7, v7)]
  | n9 {v0 v1 v2 v3 v4 v5 v6 v7 v8 : Value} : Regs0 [v0, v1, v2, v3, v4, v5, v6, v7, v8] [(0, v0), (1, v1), (2, v2), (3, v3), (4, v4), (5, v5), (6, v6), (7, v7), (8, v8)]
  | n10 {v0 v1 v2 v3 v4 v5 v6 v7 v8 v9 : Value} : Regs0 [v0, v1, v2, v3, v4, v5, v6, v7, v8, v9] [(0, v0), (1, v1), (2, v2), (3, v3), (4, v4), (5, v5), (6, v6), (7, v7), (8, v8), (9, v9)]
  | n11 {v0 v1 v2 v3 v4 v5 v6 v7 v8 v9 v10 : Value} : Regs0 [v0, v1, v2, v3, v4, v5, v6, v7, v8, v9, v10] [(0, v0), (1, v1), (2, v2), (3, v3), (4, v4), (5, v5), (6, v6), (7, v7), (8, v8), (9, v9), (10, v10)]
  | n12 {v0 v1 v2 v3 v4 v5 v6 v7 v8 v9 v10 v11 : Value} : Regs0 [v0, v1, v2, v3, v4, v5, v6, v7, v8, v9, v10, v11] [(0, v0), (1, v1), (2, v2), (3, v3), (4, v4), (5, v5), (6, v6), (7, v7), (8, v8), (9, v9), (10, v10), (11, v11)]
theorem Regs0.eq {l : List Value} {m : Regs} (h : Regs0 l m) : regsOf 0 l = m := by cases h <;> rfl

theorem enter {P : Program} {f : FuncId} {fn : Func} {c : Code} {args : List Value} {m0 : Regs} {N : Nat} {L : List Own} {F : List Fact} {post : Value → List Own → List Fact → Prop}
    (hf : P.funcs[f]? = some fn) (hN : fn.ntmps = N) (hb : fn.body = some c) (hnm : (fn.name == "runtime.NumGoroutine") = false) (hm : Regs0 args m0) (hn : Nat.ble args.length N = true)
    (h : ∀ G : Ctx, RunC G N P c (bodyPost P fn (Fin G post)) m0 L F) : Spec P f args L F post := by
  subst hN
  refine spec_intro hf hb hnm (Nat.le_of_ble_eq_true hn) fun G => ?_
  rw [hm.eq]
  exact h G

section
variable {G : Ctx} {n : Nat} {P : Program} {ops : Array Oper} {Q : Post} {rest : List Oper} {m : Regs} {L L' L'' : List Own} {F : List Fact} {a : Act} {w w' : World}
variable {d s : Nat} {ty : TypeId} {pos : String} {af : Array Edge} {g : Option (Nat × Bool)}

theorem l_lt {t yt : TypeId} {x y : Operand} {k : IntKind} {p q : Int} (hw : wantG ops m g = some true) (hx : ev m x = some (.int k p)) (hy : ev m y = some (.int k q)) (hd : Nat.blt d n = true)
    (h : RunL G n P ops Q rest ((d, .bool (decide (p < q))) :: m) L F) : RunL G n P ops Q (⟨some d, .binOp .lss t x y yt, ty, pos, af, g⟩ :: rest) m L F := l_cmp rfl hw hx hy hd rfl h
theorem l_le {t yt : TypeId} {x y : Operand} {k : IntKind} {p q : Int} (hw : wantG ops m g = some true) (hx : ev m x = some (.int k p)) (hy : ev m y = some (.int k q)) (hd : Nat.blt d n = true)
    (h : RunL G n P ops Q rest ((d, .bool (decide (p ≤ q))) :: m) L F) : RunL G n P ops Q (⟨some d, .binOp .leq t x y yt, ty, pos, af, g⟩ :: rest) m L F := l_cmp rfl hw hx hy hd rfl h
theorem l_gt {t yt : TypeId} {x y : Operand} {k : IntKind} {p q : Int} (hw : wantG ops m g = some true) (hx : ev m x = some (.int k p)) (hy : ev m y = some (.int k q)) (hd : Nat.blt d n = true)
    (h : RunL G n P ops Q rest ((d, .bool (decide (q < p))) :: m) L F) : RunL G n P ops Q (⟨some d, .binOp .gtr t x y yt, ty, pos, af, g⟩ :: rest) m L F := l_cmp rfl hw hx hy hd rfl h
theorem l_ge {t yt : TypeId} {x y : Operand} {k : IntKind} {p q : Int} (hw : wantG ops m g = some true) (hx : ev m x = some (.int k p)) (hy : ev m y = some (.int k q)) (hd : Nat.blt d n = true)
    (h : RunL G n P ops Q rest ((d, .bool (decide (q ≤ p))) :: m) L F) : RunL G n P ops Q (⟨some d, .binOp .geq t x y yt, ty, pos, af, g⟩ :: rest) m L F := l_cmp rfl hw hx hy hd rfl h
theorem l_eq {t yt : TypeId} {x y : Operand} {k : IntKind} {p q : Int} (hw : wantG ops m g = some true) (hx : ev m x = some (.int k p)) (hy : ev m y = some (.int k q)) (hd : Nat.blt d n = true)
    (h : RunL G n P ops Q rest ((d, .bool (decide (p = q))) :: m) L F) : RunL G n P ops Q (⟨some d, .binOp .eql t x y yt, ty, pos, af, g⟩ :: rest) m L F := l_cmp rfl hw hx hy hd rfl h
theorem l_ne {t yt : TypeId} {x y : Operand} {k : IntKind} {p q : Int} (hw : wantG ops m g = some true) (hx : ev m x = some (.int k p)) (hy : ev m y = some (.int k q)) (hd : Nat.blt d n = true)
    (h : RunL G n P ops Q rest ((d, .bool (decide (p ≠ q))) :: m) L F) : RunL G n P ops Q (⟨some d, .binOp .neq t x y yt, ty, pos, af, g⟩ :: rest) m L F := l_cmp rfl hw hx hy hd (by
      show (p != q) = decide (p ≠ q)
      by_cases h : p = q <;> simp [h]) h
theorem l_notD {t : TypeId} {x : Operand} {p : Prop} {_ : Decidable p} (hw : wantG ops m g = some true) (hx : ev m x = some (.bool (decide p))) (hd : Nat.blt d n = true)
    (h : RunL G n P ops Q rest ((d, .bool (decide (¬ p))) :: m) L F) : RunL G n P ops Q (⟨some d, .unOp .not t x, ty, pos, af, g⟩ :: rest) m L F :=
  l_not hw hx hd (by by_cases h : p <;> simp [h]) h
theorem l_notB {t : TypeId} {x : Operand} {p : Bool} (hw : wantG ops m g = some true) (hx : ev m x = some (.bool p)) (hd : Nat.blt d n = true)
    (h : RunL G n P ops Q rest ((d, .bool (!p)) :: m) L F) : RunL G n P ops Q (⟨some d, .unOp .not t x, ty, pos, af, g⟩ :: rest) m L F :=
  l_not hw hx hd rfl h
/-- The guard of the operation at hand: both ways. -/
theorem l_guard {op : Op} {dst : Option Tmp} {j : Nat} {want : Bool} {t : Nat} {p : Prop} {_ : Decidable p} (hj : (ops[j]?).bind (·.dst) = some t) (ht : look m t = some (.bool (decide p)))
    (h1 : p → RunL G n P ops Q (⟨dst, op, ty, pos, af, some (j, want)⟩ :: rest) ((t, .bool true) :: m) L F) (h2 : ¬ p → RunL G n P ops Q (⟨dst, op, ty, pos, af, some (j, want)⟩ :: rest) ((t, .bool false) :: m) L F) :
    RunL G n P ops Q (⟨dst, op, ty, pos, af, some (j, want)⟩ :: rest) m L F := by
  by_cases hp : p
  · exact l_know true ht (decide_eq_true hp) (h1 hp)
  · exact l_know false ht (decide_eq_false hp) (h2 hp)
theorem l_guardB {op : Op} {dst : Option Tmp} {j : Nat} {want : Bool} {t : Nat} {b : Bool} (hj : (ops[j]?).bind (·.dst) = some t) (ht : look m t = some (.bool b))
    (h1 : b = true → RunL G n P ops Q (⟨dst, op, ty, pos, af, some (j, want)⟩ :: rest) ((t, .bool true) :: m) L F) (h2 : b = false → RunL G n P ops Q (⟨dst, op, ty, pos, af, some (j, want)⟩ :: rest) ((t, .bool false) :: m) L F) :
    RunL G n P ops Q (⟨dst, op, ty, pos, af, some (j, want)⟩ :: rest) m L F := by
  cases b with
  | true => exact l_know true ht rfl (h1 rfl)
  | false => exact l_know false ht rfl (h2 rfl)
theorem c_dec {c : Operand} {x y : Code} {p : Prop} {_ : Decidable p} (hb : ev m c = some (.bool (decide p))) (ht : p → RunC G n P x Q m L F) (hf : ¬ p → RunC G n P y Q m L F) : RunC G n P (.cond c x y) Q m L F :=
  c_cond hb (fun h => ht (of_decide_eq_true h)) (fun h => hf (of_decide_eq_false h))
theorem c_bool {c : Operand} {x y : Code} {b : Bool} (hb : ev m c = some (.bool b)) (ht : b = true → RunC G n P x Q m L F) (hf : b = false → RunC G n P y Q m L F) : RunC G n P (.cond c x y) Q m L F := c_cond hb ht hf
theorem c_notB {c : Operand} {x y : Code} {b : Bool} (hb : ev m c = some (.bool (!b))) (ht : b = false → RunC G n P x Q m L F) (hf : b = true → RunC G n P y Q m L F) : RunC G n P (.cond c x y) Q m L F :=
  c_cond hb (fun h => ht (by simpa using h)) (fun h => hf (by simpa using h))
theorem c_yes {c : Operand} {x y : Code} (hb : ev m c = some (.bool true)) (ht : RunC G n P x Q m L F) : RunC G n P (.cond c x y) Q m L F := c_true hb rfl ht
theorem c_no {c : Operand} {x y : Code} (hb : ev m c = some (.bool false)) (hf : RunC G n P y Q m L F) : RunC G n P (.cond c x y) Q m L F := c_false hb rfl hf

/-! ### rows that hold a list through a function -/
theorem propId {p : Prop} (h : p) : p := h
theorem le_maxLen {j : Nat} (h : j ≤ 9223372036854775807) : j ≤ maxLen := by simp only [maxLen]; omega
theorem cs_add (i k : Nat) : (i : Int) + (k : Int) = ((i + k : Nat) : Int) := by omega
theorem cs_add1 (i k : Nat) : (i : Int) + (k : Int) + 1 = ((i + k + 1 : Nat) : Int) := by omega
theorem cs_one (i : Nat) : (i : Int) + 1 = ((i + 1 : Nat) : Int) := by omega
theorem cs_two (i : Nat) : (i : Int) + 2 = ((i + 2 : Nat) : Int) := by omega
theorem cs_sub (i k : Nat) (h : k ≤ i) : (i : Int) - (k : Int) = ((i - k : Nat) : Int) := by omega
theorem cs_pred (i : Nat) (h : 1 ≤ i) : (i : Int) - 1 = ((i - 1 : Nat) : Int) := by omega
theorem cs_l1 : (1 : Int) = ((1 : Nat) : Int) := rfl
theorem cs_l2 : (2 : Int) = ((2 : Nat) : Int) := rfl
theorem cs_l3 : (3 : Int) = ((3 : Nat) : Int) := rfl
theorem cs_zero : (0 : Int) = ((0 : Nat) : Int) := rfl
theorem cs_nat {q : Int} (h : 0 ≤ q) : q = (q.toNat : Int) := (Int.toNat_of_nonneg h).symm

variable {α : Type} {R : Rep α} {v : Value} {l : List α}
theorem l_indexList1 {t e : TypeId} {z : Value} {by' : Nat} {x i : Operand} {k : IntKind} {q : Int} [u : Und P t (.slice e)] [f : Inf P e z 1 by'] (j : Nat) (hw : wantG ops m g = some true) (hx : ev m x = some v) (hi : ev m i = some (.int k q)) (hF : fList 1 R v l ∈ F) (hd : Nat.blt d n = true)
    (hq : q = (j : Int)) (hj : j < l.length) (h : RunL G n P ops Q rest ((d, elemPtr v j) :: m) L F) : RunL G n P ops Q (⟨some d, .indexAddr t x i, ty, pos, af, g⟩ :: rest) m L F :=
  l_indexList j hw hx hi hF hd hq hj (by rw [Nat.mul_one]; exact h)
theorem l_indexRow1 {t e : TypeId} {z : Value} {by' : Nat} {x i : Operand} {k : IntKind} {q : Int} {E : TypeId} {N : Nat} {xs : List Value} [u : Und P t (.slice e)] [f : Inf P e z 1 by'] (j : Nat) (hw : wantG ops m g = some true) (hx : ev m x = some v) (hi : ev m i = some (.int k q)) (hB : Has L F (.row v E 1 N xs)) (hd : Nat.blt d n = true)
    (hq : q = (j : Int)) (hj : j < N) (h : RunL G n P ops Q rest ((d, elemPtr v j) :: m) L F) : RunL G n P ops Q (⟨some d, .indexAddr t x i, ty, pos, af, g⟩ :: rest) m L F :=
  l_indexRow j hw hx hi hB hd hq hj (by rw [Nat.mul_one]; exact h)

theorem l_makeMap {t e : TypeId} {z : Value} {by' : Nat} [u : Und P t (.slice e)] [i : Inf P e z 1 by'] {x y : Operand} {kl kc : IntKind} {q q' : Int} (j : Nat) {f : α → Value} {a0 : α} (hw : wantG ops m g = some true) (hx : ev m x = some (.int kl q)) (hy : ev m y = some (.int kc q')) (hd : Nat.blt d n = true)
    (hz : z.cells = #[z]) (hf : z = f a0) (hq : q = (j : Int)) (hq' : q' = (j : Int)) (h63 : j ≤ 9223372036854775807) (hb : by' * j ≤ 281474976710656)
    (h : ∀ v, RunL G n P ops Q rest ((d, v) :: m) (.row v e 1 j ((List.replicate j a0).map f) :: L) F) : RunL G n P ops Q (⟨some d, .makeSlice t x y, ty, pos, af, g⟩ :: rest) m L F :=
  l_make j hw hx hy hd hz hq hq' (le_maxLen h63) hb fun v => by rw [hf, ← List.map_replicate]; exact h v
theorem l_makeI {t e : TypeId} {z0 : Int} {ik : IntKind} {by' : Nat} [u : Und P t (.slice e)] [i : Inf P e (.int ik z0) 1 by'] {x y : Operand} {kl kc : IntKind} {q q' : Int} (j : Nat) (hw : wantG ops m g = some true) (hx : ev m x = some (.int kl q)) (hy : ev m y = some (.int kc q')) (hd : Nat.blt d n = true)
    (hq : q = (j : Int)) (hq' : q' = (j : Int)) (h63 : j ≤ 9223372036854775807) (hb : by' * j ≤ 281474976710656)
    (h : ∀ v, RunL G n P ops Q rest ((d, v) :: m) (.row v e 1 j ((List.replicate j z0).map (Value.int ik)) :: L) F) : RunL G n P ops Q (⟨some d, .makeSlice t x y, ty, pos, af, g⟩ :: rest) m L F :=
  l_makeMap j hw hx hy hd rfl rfl hq hq' h63 hb h
theorem l_makeB {t e : TypeId} {z0 : Bool} {by' : Nat} [u : Und P t (.slice e)] [i : Inf P e (.bool z0) 1 by'] {x y : Operand} {kl kc : IntKind} {q q' : Int} (j : Nat) (hw : wantG ops m g = some true) (hx : ev m x = some (.int kl q)) (hy : ev m y = some (.int kc q')) (hd : Nat.blt d n = true)
    (hq : q = (j : Int)) (hq' : q' = (j : Int)) (h63 : j ≤ 9223372036854775807) (hb : by' * j ≤ 281474976710656)
    (h : ∀ v, RunL G n P ops Q rest ((d, v) :: m) (.row v e 1 j ((List.replicate j z0).map Value.bool) :: L) F) : RunL G n P ops Q (⟨some d, .makeSlice t x y, ty, pos, af, g⟩ :: rest) m L F :=
  l_makeMap j hw hx hy hd rfl rfl hq hq' h63 hb h
theorem l_loadMap {t : TypeId} {D : TypeDesc} {x : Operand} {E : TypeId} {N k : Nat} {f : α → Value} {y : α} [u : Und P t D] (hw : wantG ops m g = some true) (hx : ev m x = some (elemPtr v k)) (hB : Has L F (.row v E 1 N (l.map f))) (hD : aggD D = false) (hy : l[k]? = some y) (hd : Nat.blt d n = true)
    (h : RunL G n P ops Q rest ((d, f y) :: m) L F) : RunL G n P ops Q (⟨some d, .load t x, ty, pos, af, g⟩ :: rest) m L F :=
  l_loadRow hw hx hB hD (by rw [List.getElem?_map, hy]; rfl) hd h
theorem l_storeMap {t : TypeId} {z : Value} {by' : Nat} [i : Inf P t z 1 by'] {x y : Operand} {E : TypeId} {N k : Nat} {f : α → Value} {b : α} (hw : wantG ops m g = some true) (hx : ev m x = some (elemPtr v k)) (hu : Upd L (.row v E 1 N (l.map f)) (.row v E 1 N ((l.set k b).map f)) L') (hy : ev m y = some (f b))
    (hc : Cells (f b) [f b]) (h1 : (f b).oneCell' = true) (hk : k < l.length) (h : RunL G n P ops Q rest m L' F) : RunL G n P ops Q (⟨none, .store t x y, ty, pos, af, g⟩ :: rest) m L F :=
  l_storeRow hw hx hy (by rw [← List.map_set]; exact hu) hc h1 (by simpa using hk) h
variable {LF : Value → List Own}
/-- append of one value: a literal's row, then the append. -/
theorem l_lit1 {t e : TypeId} {z : Value} {by' : Nat} [u : Und P t (.slice e)] [f : Inf P e z 1 by'] {x : Operand} {b : Value} (hw : wantG ops m g = some true) (hx : ev m x = some b) (hd : Nat.blt d n = true) (hz : z.cells = #[z]) (hc : Cells b [b])
    (h : ∀ v, RunL G n P ops Q rest ((d, v) :: m) (.row v e 1 1 [b] :: L) F) : RunL G n P ops Q (⟨some d, .buildSlice t 1 #[(0, x)], ty, pos, af, g⟩ :: rest) m L F :=
  l_lit (pv := [(0, b)]) (cs := [b]) hw hd (fun a he => by simp [he.eval hx]) (by omega) (by
    have h1 : b.cells.size = 1 := by rw [hc.size]; rfl
    have h2 : b.cells = #[b] := Array.toList_inj.1 (by rw [hc.eq])
    simp [Instr.fill, hz, h2]
    apply Array.toList_inj.1
    simp [List.range_succ]) (by simp) (by omega) h
theorem l_lit0 {t e : TypeId} {z : Value} {by' : Nat} [u : Und P t (.slice e)] [f : Inf P e z s by'] (hw : wantG ops m g = some true) (hd : Nat.blt d n = true)
    (h : ∀ v, RunL G n P ops Q rest ((d, v) :: m) (.row v e s 0 [] :: L) F) : RunL G n P ops Q (⟨some d, .buildSlice t 0 #[], ty, pos, af, g⟩ :: rest) m L F :=
  l_lit (pv := []) (cs := []) hw hd (fun a he => by simp) (by omega) (by simp [Instr.fill]) (by simp) (by simp) h
theorem l_append1 {t e : TypeId} {z : Value} {by' : Nat} [u : Und P t (.slice e)] [f : Inf P e z 1 by'] {x y : Operand} {E : TypeId} {N : Nat} {b : α} {fv : α → Value} {vs : Value} {L1 : List Own} (hw : wantG ops m g = some true) (hx : ev m x = some v) (hy : ev m y = some vs) (hd : Nat.blt d n = true)
    (hs : Nat.beq z.cells.size 1 = true) (hE : Era L (.row vs E 1 1 [fv b]) L1) (hu : ∀ v', Upd L1 (.row v e 1 N (l.map fv)) (.row v' e 1 (N + 1) ((l ++ [b]).map fv)) (LF v')) (h1 : (fv b).oneCell' = true)
    (h63 : N < 9223372036854775807) (hb : (N + 1) * by' ≤ 140737488355328)
    (h : ∀ v', RunL G n P ops Q rest ((d, v') :: m) (LF v') F) : RunL G n P ops Q (⟨some d, .call ⟨.builtin .append, #[x, y], #[t, t]⟩, ty, pos, af, g⟩ :: rest) m L F := by
  have hm : (l ++ [b]).map fv = l.map fv ++ [fv b] := by simp
  refine l_step hw fun a w st => ?_
  have hS := st.own.all _ hE.mem
  have st' := st.era hE
  obtain ⟨v', w', r1, r2, r3, r4⟩ := run_append (P := P) (t := t) hs rfl (st'.own.all _ (hu v).mem) (src_row hS) (by intro y hy; simp at hy; subst hy; exact h1) (le_maxLen (by omega)) hb ty
  refine ⟨v', w', ?_, h v' _ _ ((st'.upd (hu v') r3 (by rw [hm]; exact r2) r4).put hd v')⟩
  simp [execOp, st.env.eval hx, st.env.eval hy, resolve, invoke, builtin, r1]

/-! ### the end of a round -/
theorem e_again {ι : Type} {mI : ι → Regs} {LI : ι → List Own} {FI : ι → List Fact} {μ : ι → Nat} {k : Nat} (i' : ι) (hμ : μ i' < k) (hm : ∀ t v, look (mI i') t = some v → look m t = some v) (hL : L = LI i') (hF : ∀ φ, φ ∈ FI i' → φ ∈ F) :
    Ends G n (Exit.then (fun a w => ∃ i', μ i' < k ∧ St G n (mI i') (LI i') (FI i') a w) Q) .normal m L F := by
  subst hL
  exact fun a w s => ⟨i', hμ, s.sub hm hF⟩
theorem St.start {m' : Regs} {F' : List Fact} (s : St G n m L F a w) (hm : ∀ t v, look m' t = some v → look m t = some v) (hL : L = L') (hF : ∀ φ, φ ∈ F' → φ ∈ F) : St G n m' L' F' a w := by
  subst hL; exact s.sub hm hF
theorem sub_same {m m' : Regs} {t : Nat} {v v' : Value} (h : look m t = some v') (hv : v' = v) (hr : ∀ t v, look m' t = some v → look m t = some v) :
    ∀ s u, look ((t, v) :: m') s = some u → look m s = some u := sub_cons (hv ▸ h) hr
end
end Go.Proofs.YtbllgmcpebifhaaGreatDoor.K
end

section
/- The engine, part h: regions that draw their order. -/
namespace Go.Proofs.YtbllgmcpebifhaaGreatDoor.K
open Go Go.RowKit
set_option linter.all false

/-! ### every order, over what is known -/
def no3 : Post := fun _ _ _ => False

def Ext (c : Bool) (m : Regs) (L0 L : List Own) (F : List Fact) (m' : Regs) (L' : List Own) (F' : List Fact) : Prop :=
  (∀ t x, look m t = some x → look m' t = some x) ∧ (c = true ∨ ∀ o, o ∈ L0 → o ∈ L → o ∈ L') ∧ (∀ φ, φ ∈ F → φ ∈ F')

def OpT (G : Ctx) (n : Nat) (P : Program) (ops : Array Oper) (j : Nat) (m : Regs) (L : List Own) (F : List Fact) (K : Regs → List Own → List Fact → Prop) : Prop :=
  ∀ a w, St G n m L F a w → wpOp P ops no3 j (fun a' w' => ∃ m' L' F', St G n m' L' F' a' w' ∧ K m' L' F') a w

def RunAT (G : Ctx) (n : Nat) (P : Program) (ops : Array Oper) (Q : Post) (cl : List Nat × List Nat) (L0 : List Own) : Nat → Array Bool → Regs → List Own → List Fact → Prop
  | 0, listed, m, L, F => Region.ready .any ops listed = [] ∧ Ends G n Q .normal m L F
  | f + 1, listed, m, L, F => (Region.ready .any ops listed = [] → Ends G n Q .normal m L F) ∧ ∀ j, j ∈ Region.ready .any ops listed →
      OpT G n P ops j m L F (fun m' L' F' => (cl.1.contains j = true ∨ Ext (cl.2.contains j) m L0 L F m' L' F') ∧ RunAT G n P ops Q cl L0 f (listed.setIfInBounds j true) m' L' F')

section
variable {G : Ctx} {n : Nat} {P : Program} {ops : Array Oper} {Q : Post} {cl : List Nat × List Nat} {L0 : List Own} {m : Regs} {L : List Own} {F : List Fact}

theorem upon_no3 {o : Oper} {a : Act} {K : Act → World → Prop} {r : Result Next} (h : o.upon P a K no3 r) : o.upon P a K Q r := by
  cases r with
  | ok x w' =>
    cases x <;> simp only [Oper.upon] at h ⊢ <;> first
      | exact h
      | exact Calls.mono h (fun e w'' he => by
          cases e with
          | returned v => exact he
          | panicked c => exact he.elim
          | outgrown => obtain ⟨_, _, he⟩ := he; exact he.elim)
  | halt x w' => cases x <;> simp only [Oper.upon] at h ⊢ <;> exact h.elim

theorem wpOp_no3 {j : Nat} {K : Act → World → Prop} {a : Act} {w : World} (h : wpOp P ops no3 j K a w) : wpOp P ops Q j K a w := by
  unfold wpOp at *
  split
  · rename_i ho; simpa only [ho] using h
  · rename_i o ho
    simp only [ho] at h
    split
    · rename_i hw
      simp only [hw, if_true] at h
      rcases h with h | ⟨_, _, _, h⟩
      · exact .inl (upon_no3 h)
      · exact h.elim
    · rename_i hw
      simpa only [hw, Bool.false_eq_true, if_false] using h

theorem RunAT.sound : ∀ (f : Nat) (listed : Array Bool) (m : Regs) (L : List Own) (F : List Fact), RunAT G n P ops Q cl L0 f listed m L F → ∀ a w, St G n m L F a w → wpAny P .any ops Q f listed a w
  | 0, _, _, _, _, h, a, w, s => ⟨h.1, h.2 a w s⟩
  | f + 1, _, _, _, _, h, a, w, s => ⟨fun h0 => h.1 h0 a w s, fun i hi => wpOp_no3 (wpOp_mono (fun a' w' ⟨m', L', F', s', _, hr⟩ => RunAT.sound f _ m' L' F' hr a' w' s') (h.2 i hi a w s))⟩

theorem St.regs {m' : Regs} {a : Act} {w : World} (s : St G n m L F a w) (h : ∀ t v, look m' t = some v → look m t = some v) : St G n m' L F a w := s.sub h fun _ h => h

theorem RunAT.congr {f : Nat} {listed : Array Bool} {m m' : Regs} (he : ∀ t, look m t = look m' t) (h : RunAT G n P ops Q cl L0 f listed m L F) : RunAT G n P ops Q cl L0 f listed m' L F := by
  cases f with
  | zero => exact ⟨h.1, fun a w s => h.2 a w (s.regs fun t v ht => by rw [← he]; exact ht)⟩
  | succ f =>
    refine ⟨fun h0 a w s => h.1 h0 a w (s.regs fun t v ht => by rw [← he]; exact ht), fun j hj a w s => ?_⟩
    refine wpOp_mono ?_ (h.2 j hj a w (s.regs fun t v ht => by rw [← he]; exact ht))
    rintro a' w' ⟨m2, L2, F2, s2, he2, hr⟩
    refine ⟨m2, L2, F2, s2, he2.imp id fun ⟨x, y⟩ => ⟨fun t v ht => x t v (by rw [he]; exact ht), y⟩, hr⟩

/-! ### one operation, from one act to another -/
theorem upon_shift {o : Oper} {d : Nat} {v : Value} {a : Act} {K : Act → World → Prop} (h2 : o.dst ≠ some d) {r : Result Next} (h : o.upon P (a.put (some d) v) K no3 r) :
    o.upon P a (fun a' w' => K (a'.put (some d) v) w' ) no3 r := by
  have hc : ∀ (a : Act) (u : Value), (a.put (some d) v).put o.dst u = (a.put o.dst u).put (some d) v := fun a u => Act.put_comm a v u (by intro e he; cases he; exact h2)
  cases r with
  | ok x w' =>
    cases x <;> simp only [Oper.upon] at h ⊢
    case value u => rw [← hc]; exact h
    case skip => rw [← hc]; exact h
    case defer e => rw [← hc, ← Act.put_defers]; exact h
    case enter f args =>
      refine Calls.mono h fun e w'' he => ?_
      cases e with
      | returned u => show K _ _; rw [← hc]; exact he
      | panicked c => exact he.elim
      | outgrown => exact he
    case row row args => exact Rows.mono h fun u w'' he => by rw [← hc]; exact he
  | halt x w' => cases x <;> simp only [Oper.upon] at h ⊢ <;> exact h.elim

theorem wpOp_shift {j d : Nat} {oj : Oper} {v : Value} (hj : ops[j]? = some oj) (h1 : d ∉ oj.looksAt ops) (h2 : oj.dst ≠ some d) (hs : ∀ cs b, oj.op ≠ .select cs b) {K : Act → World → Prop} {a : Act} {w : World}
    (h : wpOp P ops no3 j K (a.put (some d) v) w) : wpOp P ops no3 j (fun a' w' => K (a'.put (some d) v) w') a w := by
  have h1' : ∀ e, some d = some e → e ∉ oj.looksAt ops := fun e he => by cases he; exact h1
  unfold wpOp at *
  simp only [hj] at *
  rw [wanted_put oj a (some d) v h1'] at h
  split
  · rename_i hw
    simp only [hw, if_true] at h
    rcases h with h | ⟨_, _, _, h⟩
    · left
      unfold Oper.wp at *
      rw [execOp_put oj hs a (some d) v h1'] at h
      exact upon_shift h2 h
    · exact h.elim
  · rename_i hw
    simp only [hw, Bool.false_eq_true, if_false] at h ⊢
    rw [← Act.put_comm a v undef (by intro e he; cases he; exact h2)]
    exact h

/-- What an operation does to the registers. -/
theorem upon_track {o : Oper} {a : Act} {K : Act → World → Prop} {r : Result Next} (h : o.upon P a K no3 r) : o.upon P a (fun a' w' => K a' w' ∧ (a'.defers = [] → ∃ v, a' = a.put o.dst v)) no3 r := by
  cases r with
  | ok x w' =>
    cases x <;> simp only [Oper.upon] at h ⊢
    case value u => exact ⟨h, fun _ => ⟨u, rfl⟩⟩
    case skip => exact ⟨h, fun _ => ⟨undef, rfl⟩⟩
    case defer e => exact ⟨h, fun h0 => by cases ho : o.dst <;> simp [Act.put, ho] at h0⟩
    case enter f args =>
      refine Calls.mono h fun e w'' he => ?_
      cases e with
      | returned u => exact ⟨he, fun _ => ⟨u, rfl⟩⟩
      | panicked c => exact he.elim
      | outgrown => obtain ⟨_, _, he⟩ := he; exact he.elim
    case row row args => exact Rows.mono h fun u w'' he => ⟨he, fun _ => ⟨u, rfl⟩⟩
  | halt x w' => cases x <;> simp only [Oper.upon] at h ⊢ <;> exact h.elim

/-! ### an operation whose value is the same whenever it comes up -/
def Gq (w : World) : Ctx := ⟨w, fun _ => False, fun _ => False⟩
def QEnd (w : World) (d : Nat) (v : Value) : Post := fun e a' w' => e = .normal ∧ a'.tmps[d]? = some v ∧ a'.defers = [] ∧ Keep (fun _ => False) w w'

theorem e_q {w : World} {n : Nat} {m' : Regs} {L' : List Own} {F' : List Fact} {d : Nat} {v : Value} (h : look m' d = some v) : Ends (Gq w) n (QEnd w d v) .normal m' L' F' :=
  fun _ _ s => ⟨rfl, s.env.get d v h, s.env.defers, s.keep⟩

def QuietOp (n : Nat) (P : Program) (ops : Array Oper) (L0 : List Own) (o : Oper) (m : Regs) (F : List Fact) (d : Nat) (v : Value) : Prop :=
  ∀ w, RunL (Gq w) n P ops (QEnd w d v) [o] m [] (F ++ L0.map fOwn)

theorem St.toQ {m' : Regs} {L' : List Own} {F' : List Fact} {a : Act} {w : World} (s : St G n m' L' F' a w) (hm : ∀ t v, look m t = some v → look m' t = some v) (hL : ∀ o, o ∈ L0 → o ∈ L') (hF : ∀ φ, φ ∈ F → φ ∈ F') :
    St (Gq w) n m [] (F ++ L0.map fOwn) a w := by
  refine ⟨⟨s.env.defers, s.env.size, fun t v h => s.env.get t v (hm t v h)⟩, Keep.refl _ _, ⟨fun o h => (by cases h), trivial⟩, fun x hx => (keys_nil x hx).elim, fun x hx => hx.elim, fun φ hφ => ?_⟩
  rcases List.mem_append.1 hφ with h | h
  · exact φ.stable (s.facts φ (hF φ h)) ⟨Nat.le_refl _, fun _ _ _ => rfl, fun x _ hx => by
      rcases hx with hx | hx
      · exact hx.elim
      · exact (keys_nil x hx).elim⟩
  · obtain ⟨o, ho, rfl⟩ := List.mem_map.1 h
    exact ⟨s.own.all o (hL o ho), fun x hx => ⟨Own.key_lt (s.own.all o (hL o ho)) hx, fun hx' => by
      rcases hx' with hx' | hx'
      · exact hx'
      · exact keys_nil x hx'⟩⟩

theorem QuietOp.run {i : Nat} {o : Oper} {m' : Regs} {L' : List Own} {F' : List Fact} {d : Nat} {v : Value} (hi : ops[i]? = some o) (hd : o.dst = some d) (hdn : d < n) (hq : QuietOp n P ops L0 o m F d v)
    (hm : ∀ t v, look m t = some v → look m' t = some v) (hL : ∀ o, o ∈ L0 → o ∈ L') (hF : ∀ φ, φ ∈ F → φ ∈ F') {a : Act} {w : World} (s : St G n m' L' F' a w) {K : Act → World → Prop}
    (hK : ∀ w', St G n ((d, v) :: m') L' F' (a.put (some d) v) w' → K (a.put (some d) v) w') : wpOp P ops no3 i K a w := by
  have h := hq w a w (s.toQ hm hL hF)
  unfold wpList at h
  unfold wpOp
  simp only [hi]
  have fin : ∀ a' w', QEnd w d v .normal a' w' → (∃ u, a' = a.put o.dst u) → K a' w' := by
    rintro a' w' ⟨_, h1, h2, h3⟩ ⟨u, rfl⟩
    rw [hd] at h1 ⊢
    have : u = v := by
      have hs := s.env.size
      simp [Act.put, hs, hdn] at h1
      exact h1
    subst this
    exact hK w' ((s.quiet h3).put (Nat.ble_eq_true_of_le hdn) u)
  split
  · rename_i hw
    simp only [hw, if_true] at h
    rcases h with h | ⟨_, _, _, h⟩
    · left
      have h' : o.upon P a (wpList P ops (QEnd w d v) []) no3 ((execOp a.eval o).run P w) := by
        have h := h
        unfold Oper.wp at h
        revert h
        generalize (execOp a.eval o).run P w = r
        intro h
        cases r with
        | ok x w' =>
          cases x <;> simp only [Oper.upon] at h ⊢ <;> first
            | exact h
            | exact Calls.mono h (fun e w'' he => by
                cases e with
                | returned v => exact he
                | panicked c => cases he.1
                | outgrown => obtain ⟨_, _, he⟩ := he; cases he.1)
        | halt x w' => cases x <;> simp only [Oper.upon] at h ⊢ <;> first | exact h.elim | cases h.1
      have h2 := upon_track h'
      unfold Oper.wp
      revert h2
      generalize (execOp a.eval o).run P w = r
      intro h2
      cases r with
      | ok x w' =>
        cases x <;> simp only [Oper.upon] at h2 ⊢
        case value u => exact fin _ _ h2.1 (h2.2 h2.1.2.2.1)
        case skip => exact fin _ _ h2.1 (h2.2 h2.1.2.2.1)
        case defer e => exact fin _ _ h2.1 (h2.2 h2.1.2.2.1)
        case enter f args =>
          refine Calls.mono h2 fun e w'' he => ?_
          cases e with
          | returned u => exact fin _ _ he.1 (he.2 he.1.2.2.1)
          | panicked c => exact he.elim
          | outgrown => exact he
        case row row args => exact Rows.mono h2 fun u w'' he => fin _ _ he.1 (he.2 he.1.2.2.1)
      | halt x w' => cases x <;> simp only [Oper.upon] at h2 ⊢ <;> exact h2.elim
    · cases h.1
  · rename_i hw
    simp only [hw, Bool.false_eq_true, if_false] at h
    have h : QEnd w d v .normal (a.put o.dst undef) w := h
    exact fin _ _ h ⟨undef, rfl⟩

/-! ### what waits -/
def Closed (ops : Array Oper) (listed : Array Bool) : Prop := ∀ (k : Nat) (o : Oper), ops[k]? = some o → listed.getD k false = true → ∀ e ∈ o.after, Region.binds .any e = true → listed.getD e.on false = true
def closedB (ops : Array Oper) (listed : Array Bool) : Bool := (List.range ops.size).all fun k => !listed.getD k false || (match ops[k]? with | some o => o.after.all (fun e => !Region.binds .any e || listed.getD e.on false) | none => true)
def waits (ops : Array Oper) (i : Nat) : Nat → Nat → Bool
  | 0, _ => false
  | f + 1, c => match ops[c]? with
    | none => false
    | some o => o.after.any fun e => Region.binds .any e && (e.on == i || waits ops i f e.on)

theorem closedB_spec {listed : Array Bool} (h : closedB ops listed = true) : Closed ops listed := by
  intro k o ho hk e he hb
  simp only [closedB, List.all_eq_true, List.mem_range] at h
  have h1 := h k (Array.getElem?_eq_some_iff.1 ho).1
  simp only [ho, hk, Bool.not_true, Bool.false_or, Array.all_eq_true_iff_forall_mem] at h1
  have := h1 e he
  simpa [hb] using this
theorem Closed.set {listed : Array Bool} {j : Nat} (h : Closed ops listed) (hj : j ∈ Region.ready .any ops listed) : Closed ops (listed.setIfInBounds j true) := by
  intro k o ho hk e he hb
  by_cases hkj : k = j
  · subst hkj
    obtain ⟨_, o', ho', hall⟩ := mem_ready.1 hj
    rw [ho] at ho'; cases ho'
    exact getD_set_true (hall e he hb)
  · rw [getD_set_ne false (Ne.symm hkj)] at hk
    exact getD_set_true (h k o ho hk e he hb)
theorem waits_spec {listed : Array Bool} {i : Nat} (h : Closed ops listed) (hi : listed.getD i false = false) : ∀ f c, waits ops i f c = true → listed.getD c false = false
  | 0, c, hw => by simp [waits] at hw
  | f + 1, c, hw => by
    unfold waits at hw
    split at hw
    · cases hw
    · rename_i o ho
      cases hc : listed.getD c false
      · rfl
      · rw [Array.any_eq_true'] at hw
        obtain ⟨e, he, hb⟩ := hw
        simp only [Bool.and_eq_true, Bool.or_eq_true, beq_iff_eq] at hb
        have := h c o ho hc e he hb.1
        rcases hb.2 with h1 | h1
        · rw [h1, hi] at this; cases this
        · rw [waits_spec h hi f e.on h1] at this; cases this
theorem waits_ready {listed : Array Bool} {i f c : Nat} (h : Closed ops listed) (hi : listed.getD i false = false) (hw : waits ops i f c = true) : c ∉ Region.ready .any ops listed := by
  intro hc
  obtain ⟨_, o, ho, hall⟩ := mem_ready.1 hc
  cases f with
  | zero => simp [waits] at hw
  | succ f =>
    unfold waits at hw
    simp only [ho] at hw
    rw [Array.any_eq_true'] at hw
    obtain ⟨e, he, hb⟩ := hw
    simp only [Bool.and_eq_true, Bool.or_eq_true, beq_iff_eq] at hb
    have := hall e he hb.1
    rcases hb.2 with h1 | h1
    · rw [h1, hi] at this; cases this
    · rw [waits_spec h hi f e.on h1] at this; cases this

/-- Forget a register. -/
def eraR (d : Nat) (m : Regs) : Regs := m.filter fun p => !(p.1 == d)
theorem look_eraR (d : Nat) : ∀ (m : Regs) (t : Nat), look (eraR d m) t = if t = d then none else look m t
  | [], t => by simp [eraR, look]
  | (s, v) :: m, t => by
    have ih := look_eraR d m t
    by_cases hs : s = d
    · have : eraR d ((s, v) :: m) = eraR d m := by simp [eraR, hs]
      rw [this, ih]
      by_cases ht : t = d
      · simp [ht]
      · rw [if_neg ht, if_neg ht, look_cons, if_neg (by omega)]
    · have : eraR d ((s, v) :: m) = (s, v) :: eraR d m := by simp [eraR, hs]
      rw [this, look_cons, look_cons, ih]
      by_cases h : s = t
      · subst h; simp [hs]
      · simp [h]

/-- **An operation whose value is the same whenever it comes up may be taken first.** -/
theorem RunAT.first {i d : Nat} {oi : Oper} {v : Value} (hi : ops[i]? = some oi) (hd : oi.dst = some d) (hdn : d < n) (hsel : ∀ (j : Nat) (o : Oper) cs b, ops[j]? = some o → o.op ≠ .select cs b) {fw : Nat} (hcl : ∀ c, cl.1.contains c = true → waits ops i fw c = true) {Lq : List Own} (hLq : Lq = [] ∨ (Lq = L0 ∧ ∀ c, cl.2.contains c = true → waits ops i fw c = true))
    (hq : QuietOp n P ops Lq oi m F d v) :
    ∀ (f : Nat) (listed : Array Bool) (mc : Regs) (Lc : List Own) (Fc : List Fact), Closed ops listed → i < listed.size →
      (∀ j oj, ops[j]? = some oj → j ≠ i → listed.getD j true = false → (∀ e ∈ oj.after, Region.binds .any e = true → e.on ≠ i) → oi.apart ops oj = true) →
      i ∈ Region.ready .any ops listed → (∀ t x, look m t = some x → look mc t = some x) → (∀ o, o ∈ Lq → o ∈ Lc) → (∀ φ, φ ∈ F → φ ∈ Fc) → look mc d = none →
      RunAT G n P ops Q cl L0 f (listed.setIfInBounds i true) ((d, v) :: mc) Lc Fc → RunAT G n P ops Q cl L0 (f + 1) listed mc Lc Fc := by
  intro f
  induction f with
  | zero =>
    intro listed mc Lc Fc hcd his hfree hr hm hL hF hfd H
    refine ⟨fun h => (by rw [h] at hr; cases hr), fun j hj => ?_⟩
    by_cases hji : j = i
    · subst hji
      intro a w s
      refine hq.run hi hd hdn hm hL hF s fun w' s' => ⟨_, _, _, s', .inr ⟨fun t x ht => ?_, .inr fun _ _ h => h, fun _ h => h⟩, H⟩
      rw [look_cons, if_neg (by intro e; rw [← e, hfd] at ht; cases ht)]; exact ht
    · have := ready_mono hj hji
      rw [H.1] at this
      cases this
  | succ f ih =>
    intro listed mc Lc Fc hcd his hfree hr hm hL hF hfd H
    refine ⟨fun h => (by rw [h] at hr; cases hr), fun j hj => ?_⟩
    by_cases hji : j = i
    · subst hji
      intro a w s
      refine hq.run hi hd hdn hm hL hF s fun w' s' => ⟨_, _, _, s', .inr ⟨fun t x ht => ?_, .inr fun _ _ h => h, fun _ h => h⟩, H⟩
      rw [look_cons, if_neg (by intro e; rw [← e, hfd] at ht; cases ht)]; exact ht
    · have hi0 : listed.getD i false = false := by
        have := (mem_ready.1 hr).1
        rw [Array.getD_eq_getD_getElem?] at this ⊢
        rw [Array.getElem?_eq_getElem his] at this ⊢
        simpa using this
      have h1 := H.2 j (ready_mono hj hji)
      obtain ⟨hjun, oj, hoj, hall⟩ := mem_ready.1 hj
      have hnot : ∀ e ∈ oj.after, Region.binds .any e = true → e.on ≠ i := fun e he hb heq => by
        have h1 := hall e he hb
        rw [heq, hi0] at h1
        cases h1
      have hncl : cl.1.contains j ≠ true := fun hc => waits_ready hcd hi0 (hcl j hc) hj
      have hap := hfree j oj hoj hji hjun hnot
      obtain ⟨p1, p2, p3⟩ := Oper.apart_spec hap
      intro a w s
      have h2 := wpOp_shift hoj (p1 d hd) (p2 d hd) (fun cs b => hsel j oj cs b hoj) (h1 (a.put (some d) v) w (s.put (Nat.ble_eq_true_of_le hdn) v))
      refine wpOp_mono ?_ h2
      rintro a' w' ⟨m', L', F', s', he, hr'⟩
      obtain ⟨e1, e2, e3⟩ := he.resolve_left hncl
      have hv : look m' d = some v := e1 d v (by rw [look_cons, if_pos rfl])
      have hmc : ∀ t x, look mc t = some x → t ≠ d ∧ look m' t = some x := fun t x ht => by
        have hne : t ≠ d := fun e => by rw [e, hfd] at ht; cases ht
        exact ⟨hne, e1 t x (by rw [look_cons, if_neg (Ne.symm hne)]; exact ht)⟩
      have hmc' : ∀ t x, look mc t = some x → look (eraR d m') t = some x := fun t x ht => by
        obtain ⟨x1, x2⟩ := hmc t x ht
        rw [look_eraR, if_neg x1]; exact x2
      have hLq' : ∀ o, o ∈ Lq → o ∈ L' := by
        rcases hLq with rfl | ⟨rfl, hw2⟩
        · intro o ho; cases ho
        · have := e2.resolve_left fun hc => waits_ready hcd hi0 (hw2 j hc) hj
          exact fun o ho => this o ho (hL o ho)
      refine ⟨eraR d m', L', F', ⟨⟨?_, ?_, fun t x ht => ?_⟩, s'.keep, s'.own, s'.mine, s'.x, s'.facts⟩, .inr ⟨hmc', e2, e3⟩, ?_⟩
      · exact s'.env.defers
      · have := s'.env.size
        simpa [Act.put] using this
      · rw [look_eraR] at ht
        split at ht
        · cases ht
        · rename_i hne
          have := s'.env.get t x ht
          simpa [Act.put, Array.getElem?_setIfInBounds_ne (Ne.symm hne)] using this
      · refine ih (listed.setIfInBounds j true) (eraR d m') L' F' (hcd.set hj) (by simpa using his) ?_ (ready_mono hr (Ne.symm hji)) (fun t x ht => hmc' t x (hm t x ht)) hLq' (fun φ h => e3 φ (hF φ h)) (by rw [look_eraR, if_pos rfl]) ?_
        · intro k ok hk hki hun hno
          refine hfree k ok hk hki ?_ hno
          by_cases hjk : j = k
          · subst hjk; exact hjun
          · rw [getD_set_ne true hjk] at hun; exact hun
        · rw [Array.setIfInBounds_comm _ _ hji]
          refine hr'.congr fun t => ?_
          rw [look_cons, look_eraR]
          by_cases h : d = t
          · subst h; rw [if_pos rfl]; exact hv
          · rw [if_neg h, if_neg (Ne.symm h)]

/-! ### the rules -/
def RunP (G : Ctx) (n : Nat) (P : Program) (ops : Array Oper) (Q : Post) (cl : List Nat × List Nat) (L0 : List Own) (plan : List Nat) (listed : Array Bool) (m : Regs) (L : List Own) (F : List Fact) : Prop :=
  RunAT G n P ops Q cl L0 plan.length listed m L F

theorem c_draw {id : Nat} {l : List Oper} (cl : List Nat × List Nat) (L0 : List Own) (plan : List Nat) (hm : P.follows .mixedOrders = true) (hl : Nat.beq plan.length l.toArray.size = true)
    (h : RunP G n P l.toArray Q cl L0 plan (Array.replicate l.toArray.size false) m L F) : RunC G n P (.region id l.toArray true) Q m L F := by
  intro a w s
  refine wp_region_any hm ?_
  have h' : RunAT _ _ _ _ _ _ _ _ _ _ _ _ := h
  rw [Nat.eq_of_beq_eq_true hl] at h'
  exact RunAT.sound _ _ _ _ _ h' a _ (s.quiet ⟨rfl, rfl, rfl, Nat.le_refl _, fun _ _ _ => rfl⟩)

def chkQ (ops : Array Oper) (cl : List Nat) (listed : Array Bool) (i : Nat) : Bool :=
  Region.noSelect ops && closedB ops listed && (Region.ready .any ops listed).contains i && Region.free .any ops listed i && Nat.blt i listed.size && cl.all fun c => waits ops i ops.size c

theorem a_quiet {i d : Nat} {plan : List Nat} {listed : Array Bool} {op : Op} {ty : TypeId} {pos : String} {af : Array Edge} {g : Option (Nat × Bool)} {v : Value} (hi : ops[i]? = some ⟨some d, op, ty, pos, af, g⟩) (hd : Nat.blt d n = true) (hc : chkQ ops (cl.1 ++ cl.2) listed i = true) (hf : look m d = none) (hL : ∀ o, o ∈ L0 → o ∈ L)
    (hq : ∀ w, RunL (Gq w) n P ops (QEnd w d v) [⟨some d, op, ty, pos, af, g⟩] m [] (F ++ L0.map fOwn))
    (h : RunP G n P ops Q cl L0 plan (listed.setIfInBounds i true) ((d, v) :: m) L F) : RunP G n P ops Q cl L0 (i :: plan) listed m L F := by
  simp only [chkQ, Bool.and_eq_true, List.all_eq_true] at hc
  obtain ⟨⟨⟨⟨⟨c1, c2⟩, c3⟩, c4⟩, c5⟩, c6⟩ := hc
  exact RunAT.first hi rfl (Nat.le_of_ble_eq_true hd) (Region.noSelect_spec c1) (fw := ops.size) (fun c hc => c6 c (List.mem_append_left _ (by simpa using hc))) (.inr ⟨rfl, fun c hc => c6 c (List.mem_append_right _ (by simpa using hc))⟩) hq plan.length listed m L F (closedB_spec c2) (Nat.le_of_ble_eq_true c5) (Region.free_spec hi c4) (by simpa using c3) (fun _ _ h => h) hL (fun _ h => h) hf h

theorem a_quiet0 {i d : Nat} {plan : List Nat} {listed : Array Bool} {op : Op} {ty : TypeId} {pos : String} {af : Array Edge} {g : Option (Nat × Bool)} {v : Value} (hi : ops[i]? = some ⟨some d, op, ty, pos, af, g⟩) (hd : Nat.blt d n = true) (hc : chkQ ops cl.1 listed i = true) (hf : look m d = none)
    (hq : ∀ w, RunL (Gq w) n P ops (QEnd w d v) [⟨some d, op, ty, pos, af, g⟩] m [] F)
    (h : RunP G n P ops Q cl L0 plan (listed.setIfInBounds i true) ((d, v) :: m) L F) : RunP G n P ops Q cl L0 (i :: plan) listed m L F := by
  simp only [chkQ, Bool.and_eq_true, List.all_eq_true] at hc
  obtain ⟨⟨⟨⟨⟨c1, c2⟩, c3⟩, c4⟩, c5⟩, c6⟩ := hc
  exact RunAT.first hi rfl (Nat.le_of_ble_eq_true hd) (Region.noSelect_spec c1) (fw := ops.size) (fun c hc => c6 c (by simpa using hc)) (Lq := []) (.inl rfl) (fun w => by simpa using hq w) plan.length listed m L F (closedB_spec c2) (Nat.le_of_ble_eq_true c5) (Region.free_spec hi c4) (by simpa using c3) (fun _ _ h => h) (fun _ h => by cases h) (fun _ h => h) hf h

def AEnd (G : Ctx) (n : Nat) (K : Regs → List Own → List Fact → Prop) : Post := fun e a' w' => e = .normal ∧ ∃ m' L' F', St G n m' L' F' a' w' ∧ K m' L' F'

theorem opT_of_runL {j : Nat} {o : Oper} {K : Regs → List Own → List Fact → Prop} (hj : ops[j]? = some o) (h : RunL G n P ops (AEnd G n K) [o] m L F) : OpT G n P ops j m L F K := by
  intro a w s
  have h := h a w s
  unfold wpList at h
  unfold wpOp
  simp only [hj]
  split
  · rename_i hw
    simp only [hw, if_true] at h
    rcases h with h | ⟨_, _, _, h, _⟩
    · left
      unfold Oper.wp at *
      revert h
      generalize (execOp a.eval o).run P w = r
      intro h
      cases r with
      | ok x w' =>
        cases x <;> simp only [Oper.upon] at h ⊢
        case value u => exact h.2
        case skip => exact h.2
        case defer e => exact h.2
        case enter f args =>
          refine Calls.mono h fun e w'' he => ?_
          cases e with
          | returned u => exact he.2
          | panicked c => cases he.1
          | outgrown => obtain ⟨_, _, he⟩ := he; cases he.1
        case row row args => exact Rows.mono h fun u w'' he => he.2
      | halt x w' => cases x <;> simp only [Oper.upon] at h ⊢ <;> first | exact h.elim | cases h.1
    · cases h
  · rename_i hw
    simp only [hw, Bool.false_eq_true, if_false] at h
    exact h.2

/-- What must be shown behind an operation: of the ones that wait for all that is read, nothing; of the others, that what was known is known. -/
def KA (G : Ctx) (n : Nat) (P : Program) (ops : Array Oper) (Q : Post) (cl : List Nat × List Nat) (L0 : List Own) (plan : List Nat) (listed : Array Bool) (i : Nat) (m : Regs) (L : List Own) (F : List Fact) (m' : Regs) (L' : List Own) (F' : List Fact) : Prop :=
  (cl.1.contains i = true ∨ Ext (cl.2.contains i) m L0 L F m' L' F') ∧ RunAT G n P ops Q cl L0 plan.length (listed.setIfInBounds i true) m' L' F'

/-- The only one that may come up. -/
theorem a_only {i : Nat} {plan : List Nat} {listed : Array Bool} {dst : Option Tmp} {op : Op} {ty : TypeId} {pos : String} {af : Array Edge} {g : Option (Nat × Bool)} (hi : ops[i]? = some ⟨dst, op, ty, pos, af, g⟩) (hr : Region.ready .any ops listed = [i])
    (h : RunL G n P ops (AEnd G n (KA G n P ops Q cl L0 plan listed i m L F)) [⟨dst, op, ty, pos, af, g⟩] m L F) : RunP G n P ops Q cl L0 (i :: plan) listed m L F := by
  refine ⟨fun h0 => (by rw [hr] at h0; cases h0), fun j hj => ?_⟩
  rw [hr] at hj
  have : j = i := by simpa using hj
  subst this
  exact opT_of_runL hi h
/-- Two may come up. -/
theorem a_two {i k : Nat} {plan : List Nat} {listed : Array Bool} {dst dst' : Option Tmp} {op op' : Op} {ty ty' : TypeId} {pos pos' : String} {af af' : Array Edge} {g g' : Option (Nat × Bool)} (p1 p2 : List Nat) (hi : ops[i]? = some ⟨dst, op, ty, pos, af, g⟩) (hk : ops[k]? = some ⟨dst', op', ty', pos', af', g'⟩) (hr : Region.ready .any ops listed = [i, k] ∨ Region.ready .any ops listed = [k, i]) (hp1 : p1.length = plan.length) (hp2 : p2.length = plan.length)
    (h : RunL G n P ops (AEnd G n (KA G n P ops Q cl L0 p1 listed i m L F)) [⟨dst, op, ty, pos, af, g⟩] m L F) (h' : RunL G n P ops (AEnd G n (KA G n P ops Q cl L0 p2 listed k m L F)) [⟨dst', op', ty', pos', af', g'⟩] m L F) : RunP G n P ops Q cl L0 (i :: plan) listed m L F := by
  refine ⟨fun h0 => (by rcases hr with hr | hr <;> rw [hr] at h0 <;> cases h0), fun j hj => ?_⟩
  have : j = i ∨ j = k := by
    rcases hr with hr | hr <;> rw [hr] at hj <;> simp at hj <;> omega
  rcases this with rfl | rfl
  · have := opT_of_runL hi h
    unfold KA at this
    rw [hp1] at this
    exact this
  · have := opT_of_runL hk h'
    unfold KA at this
    rw [hp2] at this
    exact this
theorem e_closer {plan : List Nat} {listed : Array Bool} {i : Nat} {m' : Regs} {L' : List Own} {F' : List Fact} (hc : cl.1.contains i = true) (h : RunP G n P ops Q cl L0 plan (listed.setIfInBounds i true) m' L' F') :
    Ends G n (AEnd G n (KA G n P ops Q cl L0 plan listed i m L F)) .normal m' L' F' := fun _ _ s => ⟨rfl, _, _, _, s, .inl hc, h⟩
theorem e_own {plan : List Nat} {listed : Array Bool} {i : Nat} {m' : Regs} {L' : List Own} {F' : List Fact} (hc : cl.2.contains i = true) (hm : ∀ t x, look m t = some x → look m' t = some x) (hF : ∀ φ, φ ∈ F → φ ∈ F')
    (h : RunP G n P ops Q cl L0 plan (listed.setIfInBounds i true) m' L' F') : Ends G n (AEnd G n (KA G n P ops Q cl L0 plan listed i m L F)) .normal m' L' F' := fun _ _ s => ⟨rfl, _, _, _, s, .inr ⟨hm, .inl hc, hF⟩, h⟩
theorem e_a {plan : List Nat} {listed : Array Bool} {i : Nat} {m' : Regs} {L' : List Own} {F' : List Fact} (hm : ∀ t x, look m t = some x → look m' t = some x) (hL : ∀ o, o ∈ L0 → o ∈ L') (hF : ∀ φ, φ ∈ F → φ ∈ F')
    (h : RunP G n P ops Q cl L0 plan (listed.setIfInBounds i true) m' L' F') : Ends G n (AEnd G n (KA G n P ops Q cl L0 plan listed i m L F)) .normal m' L' F' := fun _ _ s => ⟨rfl, _, _, _, s, .inr ⟨hm, .inr fun o ho _ => hL o ho, hF⟩, h⟩
theorem a_done {listed : Array Bool} (hr : Region.ready .any ops listed = []) (h : Ends G n Q .normal m L F) : RunP G n P ops Q cl L0 [] listed m L F := ⟨hr, h⟩
theorem sub_head {d : Nat} {v : Value} (h : look m d = none) : ∀ t x, look m t = some x → look ((d, v) :: m) t = some x := fun t x ht => by
  rw [look_cons, if_neg (by intro e; rw [← e, h] at ht; cases ht)]; exact ht
theorem osub_nil {L : List Own} : ∀ o, o ∈ [] → o ∈ L := fun _ h => by cases h
theorem osub_cons {L L' : List Own} {p : Own} (h : p ∈ L) (hr : ∀ o, o ∈ L' → o ∈ L) : ∀ o, o ∈ p :: L' → o ∈ L := by
  intro o ho
  cases ho with
  | head => exact h
  | tail _ h' => exact hr o h'
end

/-! ### strings, quotients -/
section
theorem e_resT {G : Ctx} {n : Nat} {P : Program} {m : Regs} {L : List Own} {F : List Fact} {fn : Func} {post : Value → List Own → List Fact → Prop} {rs : List ResultVar} {vs : List Value} {Lo Lr : List Own} {Fo : List Fact} (hr : fn.results = rs.toArray) (h : Res P m L rs vs)
    (hT : Take L Lo Lr) (hF : ∀ φ, φ ∈ Fo → φ ∈ F) (hp : post (retVal vs) Lo Fo) : Ends G n (bodyPost P fn (Fin G post)) .ret m L F :=
  e_res hr h Lo Fo hT.split.1 (fun _ ho => (hT.split.2.2.2 ho.apart).1) hF hp
variable {G : Ctx} {n : Nat} {P : Program} {ops : Array Oper} {Q : Post} {rest : List Oper} {m : Regs} {L : List Own} {F : List Fact}
variable {d : Nat} {ty : TypeId} {pos : String} {af : Array Edge} {g : Option (Nat × Bool)}
theorem l_eqB {t yt : TypeId} {x y : Operand} {p q : Bool} (ht : P.underlying t = some .bool) (hw : wantG ops m g = some true) (hx : ev m x = some (.bool p)) (hy : ev m y = some (.bool q)) (hd : Nat.blt d n = true)
    (h : RunL G n P ops Q rest ((d, .bool (decide (p = q))) :: m) L F) : RunL G n P ops Q (⟨some d, .binOp .eql t x y yt, ty, pos, af, g⟩ :: rest) m L F :=
  l_eqBool ht hw hx hy hd (by cases p <;> cases q <;> rfl) h
theorem l_neB {t yt : TypeId} {x y : Operand} {p q : Bool} (ht : P.underlying t = some .bool) (hw : wantG ops m g = some true) (hx : ev m x = some (.bool p)) (hy : ev m y = some (.bool q)) (hd : Nat.blt d n = true)
    (h : RunL G n P ops Q rest ((d, .bool (decide (p ≠ q))) :: m) L F) : RunL G n P ops Q (⟨some d, .binOp .neq t x y yt, ty, pos, af, g⟩ :: rest) m L F :=
  l_neBool ht hw hx hy hd (by cases p <;> cases q <;> rfl) h
/-- A string of these bytes. -/
def str (l : List UInt8) : Value := .string ⟨l.toArray⟩
theorem l_eqS {t yt : TypeId} {x y : Operand} {p q : List UInt8} (_ht : P.underlying t = some .string) (hw : wantG ops m g = some true) (hx : ev m x = some (.string ⟨p.toArray⟩)) (hy : ev m y = some (.string ⟨q.toArray⟩)) (hd : Nat.blt d n = true)
    (h : RunL G n P ops Q rest ((d, .bool (decide (p = q))) :: m) L F) : RunL G n P ops Q (⟨some d, .binOp .eql t x y yt, ty, pos, af, g⟩ :: rest) m L F :=
  l_eqStr hw hx hy hd (by rw [Bool.beq_eq_decide_eq, show ByteArray.toList ⟨p.toArray⟩ = p by simp, show ByteArray.toList ⟨q.toArray⟩ = q by simp]) h
theorem l_neS {t yt : TypeId} {x y : Operand} {p q : List UInt8} (_ht : P.underlying t = some .string) (hw : wantG ops m g = some true) (hx : ev m x = some (.string ⟨p.toArray⟩)) (hy : ev m y = some (.string ⟨q.toArray⟩)) (hd : Nat.blt d n = true)
    (h : RunL G n P ops Q rest ((d, .bool (decide (p ≠ q))) :: m) L F) : RunL G n P ops Q (⟨some d, .binOp .neq t x y yt, ty, pos, af, g⟩ :: rest) m L F :=
  l_neStr hw hx hy hd (by rw [show ByteArray.toList ⟨p.toArray⟩ = p by simp, show ByteArray.toList ⟨q.toArray⟩ = q by simp]; by_cases h : p = q <;> simp [h]) h
theorem l_catS {t yt : TypeId} {x y : Operand} {p q : List UInt8} (hw : wantG ops m g = some true) (hx : ev m x = some (.string ⟨p.toArray⟩)) (hy : ev m y = some (.string ⟨q.toArray⟩)) (hd : Nat.blt d n = true) (hle : p.length + q.length ≤ 9223372036854775807)
    (h : RunL G n P ops Q rest ((d, .string ⟨(p ++ q).toArray⟩) :: m) L F) : RunL G n P ops Q (⟨some d, .binOp .add t x y yt, ty, pos, af, g⟩ :: rest) m L F := by
  have e : (⟨p.toArray⟩ : ByteArray) ++ ⟨q.toArray⟩ = ⟨(p ++ q).toArray⟩ := by
    apply ByteArray.ext; apply Array.toList_inj.1; simp
  exact l_cat hw hx hy hd (by simpa [ByteArray.size] using hle) (by rw [e]; exact h)
theorem l_quoK {t yt : TypeId} {x y : Operand} {k : IntKind} {p q z : Int} (hw : wantG ops m g = some true) (hx : ev m x = some (.int k p)) (hy : ev m y = some (.int k q)) (hd : Nat.blt d n = true) (h0 : decide (0 < q) = true) (hp : 0 ≤ p)
    (hz : k.wrap (p / q) = z) (h : RunL G n P ops Q rest ((d, .int k z) :: m) L F) : RunL G n P ops Q (⟨some d, .binOp .quo t x y yt, ty, pos, af, g⟩ :: rest) m L F :=
  l_quo hw hx hy hd (by have := of_decide_eq_true h0; omega) (by rw [Int.tdiv_eq_ediv_of_nonneg hp]; exact hz) h
theorem l_remK {t yt : TypeId} {x y : Operand} {k : IntKind} {p q : Int} (hw : wantG ops m g = some true) (hx : ev m x = some (.int k p)) (hy : ev m y = some (.int k q)) (hd : Nat.blt d n = true) (h0 : decide (0 < q) = true) (hp : 0 ≤ p)
    (h : RunL G n P ops Q rest ((d, .int k (p % q)) :: m) L F) : RunL G n P ops Q (⟨some d, .binOp .rem t x y yt, ty, pos, af, g⟩ :: rest) m L F :=
  l_rem hw hx hy hd (by have := of_decide_eq_true h0; omega) (Int.tmod_eq_emod_of_nonneg hp) h
end
end Go.Proofs.YtbllgmcpebifhaaGreatDoor.K
end

section
/- The engine, part i: bytes and strings. -/
namespace Go.Proofs.YtbllgmcpebifhaaGreatDoor.K
open Go Go.RowKit
set_option linter.all false


section
variable {G : Ctx} {n : Nat} {P : Program} {ops : Array Oper} {Q : Post} {rest : List Oper} {m : Regs} {L L' : List Own} {F : List Fact} {a : Act} {w w' : World}
variable {d : Nat} {ty : TypeId} {pos : String} {af : Array Edge} {g : Option (Nat × Bool)} {v : Value}

theorem l_lit1I {t e : TypeId} {z : Value} {by' : Nat} [u : Und P t (.slice e)] [f : Inf P e z 1 by'] {x : Operand} {k : IntKind} {b : Int} (hw : wantG ops m g = some true) (hx : ev m x = some (.int k b)) (hd : Nat.blt d n = true) (hz : z.cells = #[z])
    (h : ∀ v, RunL G n P ops Q rest ((d, v) :: m) (.row v e 1 1 ([b].map (Value.int k)) :: L) F) : RunL G n P ops Q (⟨some d, .buildSlice t 1 #[(0, x)], ty, pos, af, g⟩ :: rest) m L F :=
  l_lit1 hw hx hd hz .int h

/-- string(bytes). -/
theorem l_strRow {src dst e : TypeId} [us : Und P src (.slice e)] [ue : Und P e (.int .u8)] [ud : Und P dst .string] {x : Operand} {E : TypeId} {N : Nat} {zs : List Int} (hw : wantG ops m g = some true) (hx : ev m x = some v) (hB : Has L F (.row v E 1 N (zs.map (Value.int .u8)))) (hd : Nat.blt d n = true)
    (h : RunL G n P ops Q rest ((d, .string ⟨(zs.map fun z => UInt8.ofNat z.toNat).toArray⟩) :: m) L F) : RunL G n P ops Q (⟨some d, .convert src dst x, ty, pos, af, g⟩ :: rest) m L F :=
  l_val _ hw hd (fun a w st => by
    have hr : w.ownsRow 0 E 1 v N (zs.map (Value.int .u8)) := hB.holds st
    have hlen : zs.length = N := by simpa using hr.1
    rcases hr.2 with ⟨hv, h0⟩ | ⟨b, cap, cur, hv, _, hh, q1, q2, q3, q4⟩
    · have : zs = [] := List.eq_nil_of_length_eq_zero (by omega)
      subst this
      have h1 := run_convert_bytes_nil (P := P) w src e us.out ue.out 0 0 dst ud.out
      simp only [execOp, st.env.eval hx, hv, Sem.run_bind, h1, Result.andThen_ok]
      rfl
    · have hc : ∀ i, i < N → w.cell? ⟨b, 0 + i, none⟩ = some (.int .u8 (zs.getD i 0)) := fun i hi => by
        have := World.ownsRow.cells hr (g := b) (by rw [hv]; rfl) i (.int .u8 (zs.getD i 0)) (by simp [List.getElem?_map, List.getD_eq_getElem?_getD, List.getElem?_eq_getElem (by omega : i < zs.length)])
        rw [add_at] at this
        exact this
      have h1 := run_convert_bytes_arg (P := P) w src e us.out ue.out b 0 N cap zs hlen hc dst ud.out
      simp only [execOp, st.env.eval hx, hv, Sem.run_bind, h1, Result.andThen_ok]
      rfl) h

theorem l_quoS {t yt : TypeId} {x y : Operand} {k : IntKind} {p q z : Int} (hw : wantG ops m g = some true) (hx : ev m x = some (.int k p)) (hy : ev m y = some (.int k q)) (hd : Nat.blt d n = true) (h0 : decide (q = 0) = false) (hz : p.tdiv q = z)
    (hz' : k.wrap z = z) (h : RunL G n P ops Q rest ((d, .int k z) :: m) L F) : RunL G n P ops Q (⟨some d, .binOp .quo t x y yt, ty, pos, af, g⟩ :: rest) m L F :=
  l_quo hw hx hy hd (of_decide_eq_false h0) (by rw [hz]; exact hz') h
theorem l_remS {t yt : TypeId} {x y : Operand} {k : IntKind} {p q z : Int} (hw : wantG ops m g = some true) (hx : ev m x = some (.int k p)) (hy : ev m y = some (.int k q)) (hd : Nat.blt d n = true) (h0 : decide (q = 0) = false) (hz : p.tmod q = z)
    (h : RunL G n P ops Q rest ((d, .int k z) :: m) L F) : RunL G n P ops Q (⟨some d, .binOp .rem t x y yt, ty, pos, af, g⟩ :: rest) m L F :=
  l_rem hw hx hy hd (of_decide_eq_false h0) hz h
theorem l_lenS {t : TypeId} {x : Operand} {p : List UInt8} (ht : P.underlying t = some .string) (hw : wantG ops m g = some true) (hx : ev m x = some (.string ⟨p.toArray⟩)) (hd : Nat.blt d n = true)
    (h : RunL G n P ops Q rest ((d, .int .i64 (p.length : Int)) :: m) L F) : RunL G n P ops Q (⟨some d, .call ⟨.builtin .len, #[x], #[t]⟩, ty, pos, af, g⟩ :: rest) m L F :=
  l_lenStr ht hw hx hd h
/-- The beginning of a row that holds a list. -/
theorem l_sliceMap {α : Type} {t e : TypeId} {z : Value} {by' : Nat} [u : Und P t (.slice e)] [f : Inf P e z 1 by'] {x : Operand} {hi : Option Operand} {j N : Nat} {l : List α} {fv : α → Value} {LF : Value → List Own} (hw : wantG ops m g = some true) (hx : ev m x = some v) (hhi : EvO m hi (some j)) (hd : Nat.blt d n = true)
    (hu : ∀ v', Upd L (.row v e 1 N (l.map fv)) (.row v' e 1 j ((l.take j).map fv)) (LF v')) (h2 : j ≤ N) (h : ∀ v', RunL G n P ops Q rest ((d, v') :: m) (LF v') F) :
    RunL G n P ops Q (⟨some d, .slice t x none hi none, ty, pos, af, g⟩ :: rest) m L F :=
  l_sliceRow hw hx hhi hd h2 (fun v' => by rw [Nat.mul_one, ← List.map_take]; exact hu v') h

theorem l_sliceTo {α : Type} {R : Rep α} {s : Nat} {l : List α} {t e : TypeId} {z : Value} {by' : Nat} [u : Und P t (.slice e)] [f : Inf P e z s by'] {x : Operand} {hi : Option Operand} {j : Nat} (hw : wantG ops m g = some true) (hx : ev m x = some v) (hF : fList s R v l ∈ F) (hhi : EvO m hi (some j)) (hd : Nat.blt d n = true)
    (h1 : j ≤ l.length) (h : ∀ v', RunL G n P ops Q rest ((d, v') :: m) L (fList s R v' (l.take j) :: F)) : RunL G n P ops Q (⟨some d, .slice t x none hi none, ty, pos, af, g⟩ :: rest) m L F :=
  l_sliceList (i := none) hw hx hF .none hhi hd (Nat.zero_le _) h1 h
theorem l_sliceFrom {α : Type} {R : Rep α} {s : Nat} {l : List α} {t e : TypeId} {z : Value} {by' : Nat} [u : Und P t (.slice e)] [f : Inf P e z s by'] {x : Operand} {lo : Option Operand} {i : Nat} (hw : wantG ops m g = some true) (hx : ev m x = some v) (hF : fList s R v l ∈ F) (hlo : EvO m lo (some i)) (hd : Nat.blt d n = true)
    (h1 : i ≤ l.length) (h : ∀ v', RunL G n P ops Q rest ((d, v') :: m) L (fList s R v' (l.drop i) :: F)) : RunL G n P ops Q (⟨some d, .slice t x lo none none, ty, pos, af, g⟩ :: rest) m L F :=
  l_sliceList (j := none) hw hx hF hlo .none hd h1 (Nat.le_refl _) fun v' => by
    have := h v'
    rwa [← List.take_length (l := l)] at this
/-- A byte of a string. -/
theorem l_indexS {t : TypeId} [u : Und P t .string] {x i : Operand} {p : List UInt8} {k : IntKind} {q : Int} {b : UInt8} (j : Nat) (hw : wantG ops m g = some true) (hx : ev m x = some (.string ⟨p.toArray⟩)) (hi : ev m i = some (.int k q)) (hd : Nat.blt d n = true)
    (hq : q = (j : Int)) (hb : p[j]? = some b) (h : RunL G n P ops Q rest ((d, .int .u8 (b.toNat : Int)) :: m) L F) : RunL G n P ops Q (⟨some d, .index t x i, ty, pos, af, g⟩ :: rest) m L F := by
  subst hq
  refine l_indexStr u.out hw hx hi hd (by omega) ?_ h
  obtain ⟨h1, h2⟩ := List.getElem?_eq_some_iff.1 hb
  rw [Int.toNat_natCast, getElem?_pos (⟨p.toArray⟩ : ByteArray) j (by simpa [ByteArray.size] using h1)]
  congr 1
theorem l_sliceSF {t : TypeId} [u : Und P t .string] {x : Operand} {lo : Option Operand} {i : Nat} {p : List UInt8} (hw : wantG ops m g = some true) (hx : ev m x = some (.string ⟨p.toArray⟩)) (hlo : EvO m lo (some i)) (hd : Nat.blt d n = true)
    (h1 : i ≤ p.length) (h : RunL G n P ops Q rest ((d, .string ⟨(p.drop i).toArray⟩) :: m) L F) : RunL G n P ops Q (⟨some d, .slice t x lo none none, ty, pos, af, g⟩ :: rest) m L F := by
  refine l_sliceStr (j := none) hw hx hlo .none hd (by simpa [ByteArray.size] using h1) (Nat.le_refl _) ?_
  have e : (⟨p.toArray⟩ : ByteArray).extract i (⟨p.toArray⟩ : ByteArray).size = ⟨(p.drop i).toArray⟩ := by
    rw [Go.Lib.extract_eq]
    have : (p.drop i).take (p.length - i) = p.drop i := List.take_of_length_le (by simp)
    simp only [ByteArray.size, List.size_toArray, this]
  simp only [Option.getD_some, Option.getD_none, e]
  exact h
theorem l_sliceST {t : TypeId} [u : Und P t .string] {x : Operand} {hi : Option Operand} {j : Nat} {p : List UInt8} (hw : wantG ops m g = some true) (hx : ev m x = some (.string ⟨p.toArray⟩)) (hhi : EvO m hi (some j)) (hd : Nat.blt d n = true)
    (h1 : j ≤ p.length) (h : RunL G n P ops Q rest ((d, .string ⟨(p.take j).toArray⟩) :: m) L F) : RunL G n P ops Q (⟨some d, .slice t x none hi none, ty, pos, af, g⟩ :: rest) m L F := by
  refine l_sliceStr (i := none) hw hx .none hhi hd (Nat.zero_le _) (by simpa [ByteArray.size] using h1) ?_
  have e : (⟨p.toArray⟩ : ByteArray).extract 0 j = ⟨(p.take j).toArray⟩ := by
    rw [Go.Lib.extract_eq]
    simp
  simp only [Option.getD_some, Option.getD_none, e]
  exact h
/-- An interface's value held against nil. -/
theorem run_equalIn_nil {t : TypeId} {I : Array (String × TypeId)} (ht : P.underlying t = some (.interface I)) (e : Nat) (w : World) : (Op.equalIn (e + 1) t .nilIface .nilIface).run P w = .ok true w := by
  simp [Op.equalIn, run_underlying ht]
theorem run_equalIn_iface {t : TypeId} {I : Array (String × TypeId)} (ht : P.underlying t = some (.interface I)) (e : Nat) (T : TypeId) (y : Value) (w : World) : (Op.equalIn (e + 1) t (.iface T y) .nilIface).run P w = .ok false w := by
  simp [Op.equalIn, run_underlying ht]
theorem l_neNil {t yt : TypeId} {I : Array (String × TypeId)} [u : Und P t (.interface I)] {x : Operand} {v : Value} {b : Bool} (hw : wantG ops m g = some true) (hx : ev m x = some v) (hd : Nat.blt d n = true) (hv : (v = .nilIface ∧ b = false) ∨ ((∃ T y, v = .iface T y) ∧ b = true))
    (h : RunL G n P ops Q rest ((d, .bool b) :: m) L F) : RunL G n P ops Q (⟨some d, .binOp .neq t x (.const .nilIface) yt, ty, pos, af, g⟩ :: rest) m L F :=
  l_bin hw hx rfl hd (fun w => by
    rcases hv with ⟨rfl, _⟩ | ⟨⟨T, y, rfl⟩, _⟩
    · simp [eqGuard]
    · simp [eqGuard]) (fun w => by
    rcases hv with ⟨rfl, rfl⟩ | ⟨⟨T, y, rfl⟩, rfl⟩
    · simp only [binOp]
      simp [Op.equal, Op.maxDepth, run_equalIn_nil u.out 9999 w]
    · simp only [binOp]
      simp [Op.equal, Op.maxDepth, run_equalIn_iface u.out 9999 T y w]) h
/-- Where a struct's fields lie. -/
inductive Pls (P : Program) : List Field → List (Nat × Nat) → Prop
  | nil : Pls P [] []
  | cons {nm : String} {ty off : Nat} {em : Bool} {tag pk : String} {bo : Nat} {z : Value} {size by' : Nat} {fs : List Field} {pl : List (Nat × Nat)} [i : Inf P ty z size by'] : Pls P fs pl → Pls P (⟨nm, ty, off, em, tag, pk, bo⟩ :: fs) ((off, size) :: pl)
theorem Pls.run {P : Program} {fs : List Field} {pl : List (Nat × Nat)} (h : Pls P fs pl) (w : World) : (fs.toArray.mapM fun f => do pure (f.offset, ← sizeOf f.type) : Sem (Array (Nat × Nat))).run P w = .ok pl.toArray w := by
  have : (fs.mapM fun f => do pure (f.offset, ← sizeOf f.type) : Sem (List (Nat × Nat))).run P w = .ok pl w := by
    induction h with
    | nil => simp
    | cons _ ih => rw [List.mapM_cons]; simp only [Sem.run_bind, run_sizeOf (by assumption), Result.andThen_ok, Sem.run_pure, ih]
  rw [List.mapM_toArray]
  simp only [Sem.run_map, this]
  rfl
theorem l_buildS {t : TypeId} {fs : List Field} {z : Value} {size bytes : Nat} [u : Und P t (.struct fs.toArray)] [f : Inf P t z size bytes] {parts : List (Nat × Operand)} {c c' : List Value} {pl : List (Nat × Nat)} (hw : wantG ops m g = some true) (hd : Nat.blt d n = true) (hz : Cells z c)
    (hpl : Pls P fs pl) (hf : Fill pl.toArray c parts m c') (h : RunL G n P ops Q rest ((d, .agg c'.toArray) :: m) L F) :
    RunL G n P ops Q (⟨some d, .build t parts.toArray, ty, pos, af, g⟩ :: rest) m L F := l_build hw hd hz (fun w => hpl.run w) hf h
/-- nil is an empty list. -/
theorem St.nilList {α : Type} {R : Rep α} {s : Nat} {a : Act} {w : World} (st : St G n m L F a w) : St G n m L (fList s R (.slice none 0 0) [] :: F) a w := st.fact (φ := fList s R (.slice none 0 0) []) (Or.inl ⟨⟨none, rfl⟩, rfl⟩ : ListAt s R (.slice none 0 0) [] w _)
theorem ends_nilInts {e : Exit} (ik : IntKind) (h : Ends G n Q e m L (fList 1 (rInt ik) (.slice none 0 0) [] :: F)) : Ends G n Q e m L F := fun a w st => h a w st.nilList
theorem l_nilInts (ik : IntKind) (h : RunL G n P ops Q rest m L (fList 1 (rInt ik) (.slice none 0 0) [] :: F)) : RunL G n P ops Q rest m L F := fun a w st => h a w st.nilList

/-- A loop that is left to the end of its block, in a state of the family told. -/
theorem c_while {c : Code} {i : Nat} {ι κ : Type} (mI : ι → Regs) (LI : ι → List Own) (FI : ι → List Fact) (μ : ι → Nat) (mE : κ → Regs) (LE : κ → List Own) (FE : κ → List Fact) (i0 : ι)
    (h0 : ∀ a w, St G n m L F a w → St G n (mI i0) (LI i0) (FI i0) a w)
    (round : ∀ x, RunC G n P c (Exit.then (fun a w => ∃ i', μ i' < μ x ∧ St G n (mI i') (LI i') (FI i') a w) (Exit.inBlock i (Exit.then (fun a w => ∃ k, St G n (mE k) (LE k) (FE k) a w) Q))) (mI x) (LI x) (FI x))
    (out : ∀ k, Ends G n Q .normal (mE k) (LE k) (FE k)) : RunC G n P (.loop c) (Exit.inBlock i Q) m L F := by
  refine c_loop mI LI FI μ i0 h0 fun x a w s => wp_mono (round x a w s) ?_
  intro e a' w' hq
  cases e with
  | normal => exact hq
  | exit j =>
    have hq : (if j = i then (∃ k, St G n (mE k) (LE k) (FE k) a' w') else Q (.exit j) a' w') := hq
    show (if j = i then Q .normal a' w' else Q (.exit j) a' w')
    split
    · rename_i h
      rw [if_pos h] at hq
      obtain ⟨k, s'⟩ := hq
      exact out k a' w' s'
    · rename_i h
      rw [if_neg h] at hq
      exact hq
  | _ => exact hq
/-- Two ways come together in a state of the family told. -/
theorem c_mid {x y : Code} {κ : Type} (mE : κ → Regs) (LE : κ → List Own) (FE : κ → List Fact) (hx : RunC G n P x (Exit.then (fun a w => ∃ k, St G n (mE k) (LE k) (FE k) a w) Q) m L F) (hy : ∀ k, RunC G n P y Q (mE k) (LE k) (FE k)) :
    RunC G n P x (Exit.then (fun a w => y.wp P Q a w) Q) m L F := by
  intro a w s
  refine wp_mono (hx a w s) ?_
  intro e a' w' hq
  cases e with
  | normal =>
    obtain ⟨k, s'⟩ := hq
    exact hy k a' w' s'
  | _ => exact hq
/-- What a register holds, said otherwise. -/
theorem c_say {c : Code} {t : Nat} {v v' : Value} (ht : look m t = some v) (hv : v = v') (h : RunC G n P c Q ((t, v') :: m) L F) : RunC G n P c Q m L F := by
  subst hv
  intro a w s
  refine h a w (s.sub (fun s u hs => ?_) fun _ h => h)
  rw [look_cons] at hs
  by_cases e : t = s
  · rw [if_pos e] at hs; rw [← e, ht]; exact hs
  · rw [if_neg e] at hs; exact hs
theorem takeAll (L : List Own) : Take L L [] := by
  induction L with
  | nil => exact .nil
  | cons o L ih => exact .cons .head ih

theorem take_skip {o : Own} {L Lc Lr : List Own} (h : Take L Lc Lr) : Take (o :: L) Lc (o :: Lr) := by
  induction h with
  | nil => exact .nil
  | cons he _ ih => exact .cons (.tail he) ih
theorem St.take {L' Lr : List Own} {a : Act} {w : World} (s : St G n m L F a w) (hT : Take L L' Lr) : St G n m L' F a w := by
  obtain ⟨t1, _, _, t4⟩ := hT.split
  have hk : ∀ y, keys L' y → keys L y := fun y ⟨o, ho, hy⟩ => ⟨o, t1 o ho, hy⟩
  exact ⟨s.env, s.keep, ⟨fun o ho => s.own.all o (t1 o ho), (t4 s.own.apart).1⟩, fun x hx => s.mine x (hk x hx), s.x, fun φ hφ => φ.stable (s.facts φ hφ) ⟨Nat.le_refl _, fun _ _ _ => rfl, fun x _ hm => hm.imp id (hk x)⟩⟩
/-- The own things in another order, and fewer. -/
theorem ends_take {L' Lr : List Own} {e : Exit} (hT : Take L L' Lr) (h : Ends G n Q e m L' F) : Ends G n Q e m L F := fun a w s => h a w (s.take hT)
theorem l_take {L' Lr : List Own} (hT : Take L L' Lr) (h : RunL G n P ops Q rest m L' F) : RunL G n P ops Q rest m L F := fun a w s => h a w (s.take hT)
theorem e_out {κ : Type} {mE : κ → Regs} {LE : κ → List Own} {FE : κ → List Fact} (k : κ) (hm : ∀ t v, look (mE k) t = some v → look m t = some v) (hL : L = LE k) (hF : ∀ φ, φ ∈ FE k → φ ∈ F) :
    Ends G n (Exit.then (fun a w => ∃ k, St G n (mE k) (LE k) (FE k) a w) Q) .normal m L F := by
  subst hL
  exact fun a w s => ⟨k, s.sub hm hF⟩
end

open Go.Lib in
theorem decDigits_len {z : Int} (h0 : 0 ≤ z) (h1 : z ≤ 9223372036854775807) : (decDigits z.toNat).length ≤ 21 := by
  have := itoa_length_le z (by omega) h1
  rwa [← Int.toNat_of_nonneg h0, itoa_nonneg] at this
end Go.Proofs.YtbllgmcpebifhaaGreatDoor.K
end

section
/- The engine, part j: shifts, bits, small literals. -/
namespace Go.Proofs.YtbllgmcpebifhaaGreatDoor.K
open Go Go.RowKit
set_option linter.all false

section
variable {G : Ctx} {n : Nat} {P : Program} {ops : Array Oper} {Q : Post} {rest : List Oper} {m : Regs} {L L' : List Own} {F : List Fact} {a : Act} {w w' : World}
variable {d : Nat} {ty : TypeId} {pos : String} {af : Array Edge} {g : Option (Nat × Bool)} {v : Value}

theorem l_shl24 {t yt : TypeId} {x y : Operand} {k' : IntKind} {p q z : Int} (hw : wantG ops m g = some true) (hx : ev m x = some (.int .u64 p)) (hy : ev m y = some (.int k' q)) (hd : Nat.blt d n = true) (hq : decide (q = 24) = true)
    (hz : IntKind.u64.wrap (p * 16777216) = z) (h : RunL G n P ops Q rest ((d, .int .u64 z) :: m) L F) : RunL G n P ops Q (⟨some d, .binOp .shl t x y yt, ty, pos, af, g⟩ :: rest) m L F := by
  obtain rfl := of_decide_eq_true hq
  exact l_shl hw hx hy hd (by decide) hz h
theorem l_shl32 {t yt : TypeId} {x y : Operand} {k' : IntKind} {p q z : Int} (hw : wantG ops m g = some true) (hx : ev m x = some (.int .u64 p)) (hy : ev m y = some (.int k' q)) (hd : Nat.blt d n = true) (hq : decide (q = 32) = true)
    (hz : IntKind.u64.wrap (p * 4294967296) = z) (h : RunL G n P ops Q rest ((d, .int .u64 z) :: m) L F) : RunL G n P ops Q (⟨some d, .binOp .shl t x y yt, ty, pos, af, g⟩ :: rest) m L F := by
  obtain rfl := of_decide_eq_true hq
  exact l_shl hw hx hy hd (by decide) hz h
theorem l_shr32 {t yt : TypeId} {x y : Operand} {k' : IntKind} {p q : Int} (hw : wantG ops m g = some true) (hx : ev m x = some (.int .u64 p)) (hy : ev m y = some (.int k' q)) (hd : Nat.blt d n = true) (hq : decide (q = 32) = true)
    (h : RunL G n P ops Q rest ((d, .int .u64 (p / 4294967296)) :: m) L F) : RunL G n P ops Q (⟨some d, .binOp .shr t x y yt, ty, pos, af, g⟩ :: rest) m L F := by
  obtain rfl := of_decide_eq_true hq
  exact l_shr hw hx hy hd (by decide) (Int.fdiv_eq_ediv_of_nonneg _ (by decide)) h
theorem l_shr63 {t yt : TypeId} {x y : Operand} {k' : IntKind} {p q : Int} (hw : wantG ops m g = some true) (hx : ev m x = some (.int .u64 p)) (hy : ev m y = some (.int k' q)) (hd : Nat.blt d n = true) (hq : decide (q = 63) = true)
    (h : RunL G n P ops Q rest ((d, .int .u64 (p / 9223372036854775808)) :: m) L F) : RunL G n P ops Q (⟨some d, .binOp .shr t x y yt, ty, pos, af, g⟩ :: rest) m L F := by
  obtain rfl := of_decide_eq_true hq
  exact l_shr hw hx hy hd (by decide) (Int.fdiv_eq_ediv_of_nonneg _ (by decide)) h
theorem l_mulA {t yt : TypeId} {x y : Operand} {k : IntKind} {p q z : Int} (hw : wantG ops m g = some true) (hx : ev m x = some (.int k p)) (hy : ev m y = some (.int k q)) (hd : Nat.blt d n = true)
    (hz : k.wrap (p * q) = z) (h : RunL G n P ops Q rest ((d, .int k z) :: m) L F) : RunL G n P ops Q (⟨some d, .binOp .mul t x y yt, ty, pos, af, g⟩ :: rest) m L F := l_mul hw hx hy hd hz h
theorem l_shlS {t yt : TypeId} {x y : Operand} {k' : IntKind} {p z : Int} {s : Nat} (hw : wantG ops m g = some true) (hx : ev m x = some (.int .u64 p)) (hy : ev m y = some (.int k' (s : Int))) (hd : Nat.blt d n = true) (hs : s ≤ 64)
    (hz : IntKind.u64.wrap (p * 2 ^ s) = z) (h : RunL G n P ops Q rest ((d, .int .u64 z) :: m) L F) : RunL G n P ops Q (⟨some d, .binOp .shl t x y yt, ty, pos, af, g⟩ :: rest) m L F := by
  refine l_shl hw hx hy hd (by omega) ?_ h
  rw [Int.toNat_natCast, show IntKind.u64.bits = 64 from rfl, Nat.min_eq_left hs]; exact hz
theorem l_shrS {t yt : TypeId} {x y : Operand} {k' : IntKind} {p : Int} {s : Nat} (hw : wantG ops m g = some true) (hx : ev m x = some (.int .u64 p)) (hy : ev m y = some (.int k' (s : Int))) (hd : Nat.blt d n = true) (hs : s ≤ 64)
    (h : RunL G n P ops Q rest ((d, .int .u64 (p / 2 ^ s)) :: m) L F) : RunL G n P ops Q (⟨some d, .binOp .shr t x y yt, ty, pos, af, g⟩ :: rest) m L F := by
  refine l_shr hw hx hy hd (by omega) ?_ h
  rw [Int.toNat_natCast, show IntKind.u64.bits = 64 from rfl, Nat.min_eq_left hs]
  exact Int.fdiv_eq_ediv_of_nonneg _ (Int.le_of_lt (Int.pow_pos (by decide)))
theorem l_orA {t yt : TypeId} {x y : Operand} {k : IntKind} {p q z : Int} (hw : wantG ops m g = some true) (hx : ev m x = some (.int k p)) (hy : ev m y = some (.int k q)) (hd : Nat.blt d n = true)
    (hz : bits .or k p q = z) (h : RunL G n P ops Q rest ((d, .int k z) :: m) L F) : RunL G n P ops Q (⟨some d, .binOp .or t x y yt, ty, pos, af, g⟩ :: rest) m L F := l_bits (.inr (.inl rfl)) hw hx hy hd hz h
theorem l_quo24 {t yt : TypeId} {x y : Operand} {k : IntKind} (hw : wantG ops m g = some true) (hx : ev m x = some (.int k 24)) (hy : ev m y = some (.int k 32)) (hd : Nat.blt d n = true) (hk : k.wrap 0 = 0)
    (h : RunL G n P ops Q rest ((d, .int k 0) :: m) L F) : RunL G n P ops Q (⟨some d, .binOp .quo t x y yt, ty, pos, af, g⟩ :: rest) m L F := l_quo hw hx hy hd (by decide) hk h
theorem l_rem24 {t yt : TypeId} {x y : Operand} {k : IntKind} (hw : wantG ops m g = some true) (hx : ev m x = some (.int k 24)) (hy : ev m y = some (.int k 32)) (hd : Nat.blt d n = true)
    (h : RunL G n P ops Q rest ((d, .int k 24) :: m) L F) : RunL G n P ops Q (⟨some d, .binOp .rem t x y yt, ty, pos, af, g⟩ :: rest) m L F := l_rem hw hx hy hd (by decide) (by decide) h
theorem l_add0 {t yt : TypeId} {x y : Operand} {k : IntKind} {p : Int} (hw : wantG ops m g = some true) (hx : ev m x = some (.int k p)) (hy : ev m y = some (.int k 0)) (hd : Nat.blt d n = true) (hp : k.wrap p = p)
    (h : RunL G n P ops Q rest ((d, .int k p) :: m) L F) : RunL G n P ops Q (⟨some d, .binOp .add t x y yt, ty, pos, af, g⟩ :: rest) m L F := l_add hw hx hy hd (by rw [Int.add_zero]; exact hp) h

theorem l_lit2I {t e : TypeId} {z : Value} {by' : Nat} [u : Und P t (.slice e)] [f : Inf P e z 1 by'] {x y : Operand} {k : IntKind} {b c : Int} (hw : wantG ops m g = some true) (hx : ev m x = some (.int k b)) (hy : ev m y = some (.int k c)) (hd : Nat.blt d n = true) (hz : z.cells = #[z])
    (h : ∀ v, RunL G n P ops Q rest ((d, v) :: m) (.row v e 1 2 ([b, c].map (Value.int k)) :: L) F) : RunL G n P ops Q (⟨some d, .buildSlice t 2 #[(0, x), (1, y)], ty, pos, af, g⟩ :: rest) m L F :=
  l_lit (pv := [(0, .int k b), (1, .int k c)]) (cs := [.int k b, .int k c]) hw hd (fun a he => by simp [he.eval hx, he.eval hy]) (by omega) (by
    simp [Instr.fill, hz, Value.cells]
    apply Array.toList_inj.1
    simp [List.range_succ]) (by simp) (by omega) h
end

/-- Bits that lie apart. -/
theorem or_apart32 (i : Nat) {c y : Int} (hc : 0 ≤ c ∧ c < (2 : Int) ^ i) (hi : c < 4294967296) (hy : 0 ≤ y ∧ y < 4294967296) (h : y % (2 : Int) ^ i = 0) : bits .or .u32 c y = c + y := by
  rw [u32_or c y hc.1 hi hy.1 hy.2]
  obtain ⟨a, rfl⟩ := Int.eq_ofNat_of_zero_le hc.1
  obtain ⟨e, rfl⟩ := Int.eq_ofNat_of_zero_le hy.1
  have h1 : a < 2 ^ i := by have := hc.2; exact_mod_cast this
  have h2 : e % 2 ^ i = 0 := by exact_mod_cast h
  have h3 : 2 ^ i * (e / 2 ^ i) = e := Nat.mul_div_cancel' (Nat.dvd_of_mod_eq_zero h2)
  have h4 := Nat.two_pow_add_eq_or_of_lt h1 (e / 2 ^ i)
  rw [h3] at h4
  simp only [Int.toNat_natCast]
  rw [Nat.or_comm, ← h4]; omega
theorem or_apart64 (i : Nat) {c y : Int} (hc : 0 ≤ c ∧ c < (2 : Int) ^ i) (hi : c < 18446744073709551616) (hy : 0 ≤ y ∧ y < 18446744073709551616) (h : y % (2 : Int) ^ i = 0) : bits .or .u64 y c = y + c := by
  rw [u64_or y c hy.1 hy.2 hc.1 hi]
  obtain ⟨a, rfl⟩ := Int.eq_ofNat_of_zero_le hc.1
  obtain ⟨e, rfl⟩ := Int.eq_ofNat_of_zero_le hy.1
  have h1 : a < 2 ^ i := by have := hc.2; exact_mod_cast this
  have h2 : e % 2 ^ i = 0 := by exact_mod_cast h
  have h3 : 2 ^ i * (e / 2 ^ i) = e := Nat.mul_div_cancel' (Nat.dvd_of_mod_eq_zero h2)
  have h4 := Nat.two_pow_add_eq_or_of_lt h1 (e / 2 ^ i)
  rw [h3] at h4
  simp only [Int.toNat_natCast]
  rw [← h4]; omega
end Go.Proofs.YtbllgmcpebifhaaGreatDoor.K
end

section
/- The engine, part k: from the reading of the arguments to what is told of lists, and from a walk to a law's end. -/
namespace Go.Proofs.YtbllgmcpebifhaaGreatDoor.K
open Go Go.RowKit Go.ChangeShapes Go.WideShapes Go.ChangeAt
set_option linter.all false

section
variable {H : Type} {enc : TypeId × Value → H} {P : Program} {w : World} {base : Nat} {held : Bool}

theorem keep_cell {W W' : World} (hk : Keep (fun _ => False) W W') {b : Nat} (hb : b < W.heap.size) (off : Nat) : W'.cell? ⟨b, off, none⟩ = W.cell? ⟨b, off, none⟩ := by
  unfold World.cell?
  rw [hk.block b hb id]
theorem keep_kept {W W' : World} (hk : Keep (fun _ => False) W W') (may : MemPlace → Prop) : W.keptBut W' may := by
  refine ⟨hk.os, hk.output, fun i hi => ?_⟩
  rw [hk.block i hi id]
  cases W.heap[i]? with
  | none => rfl
  | some o => cases o <;> simp

theorem trodAll_stay {T : TypeId → Prop} (K : Kids P T) (hsz : ∀ {t e : TypeId}, T t → P.underlying t = some (.slice e) → 0 < P.cellsOf e) {W W' : World} (hk : Keep (fun _ => False) W W') {sp : Nat → Bool} :
    ∀ (ts : List TypeId) (vs : List Value) (ds : List (DataW H)) (ps : List MemPlace), (∀ t, t ∈ ts → T t) → DataW.TrodAll enc P W 0 (fun _ => true) true ts vs ds ps → (∀ p ∈ ps, p.block < W.heap.size ∧ sp p.block = true) → DataW.TrodAll enc P W' 0 sp true ts vs ds ps := by
  intro ts
  induction ts with
  | nil =>
    intro vs ds ps _ h _
    obtain ⟨rfl, rfl, rfl⟩ := trodAll_nil h
    exact trodAll_mk0
  | cons t ts ih =>
    intro vs ds ps hT h hp
    obtain ⟨v, vs', d, ds', p, q, rfl, rfl, rfl, ⟨fuel, h1⟩, h2⟩ := trodAll_cons h
    refine ⟨p, q, ⟨fuel, DataW.trod_stays K hsz (fun h => by cases h) (hT t (.head _)) h1 (fun x hx => ?_) fun x hx => (hp x (List.mem_append_left _ hx)).2⟩, ih vs' ds' q (fun t h => hT t (.tail _ h)) h2 fun x hx => hp x (List.mem_append_right _ hx), rfl⟩
    have hb := (hp x (List.mem_append_left _ hx)).1
    cases x with
    | cell b off => exact keep_cell hk hb off
    | map b => exact hk.block b hb id

/-- A law that answers true and has turned nothing that was there. -/
theorem law_post {T : TypeId → Prop} (K : Kids P T) (hsz : ∀ {t e : TypeId}, T t → P.underlying t = some (.slice e) → 0 < P.cellsOf e) {f : Func} {s : ChangeSpec} {W W' : World} {args : Array Value} {ds gs : List (DataW H)} {before : List MemPlace} {bt : TypeId}
    (hW : DataW.Whole enc P f.params.toList s.vars false W args.toList ds gs before) (hv : s.vars = []) (hT : ∀ t, t ∈ f.params.toList → T t) (hr : f.resultTypes = #[bt]) (hbt : P.underlying bt = some .bool)
    (hfn : ∀ ds : List (DataW H), ds.length = f.params.size → s.fn H ds = { results := [.lit (.bool true)], args := ds }) (hlen : args.size = f.params.size) (hk : Keep (fun _ => False) W W') : s.post enc P f false true false false W args (.bool true) W' := by
  have hW' := hW
  obtain ⟨p, q, hA, hV, rfl, hfz, hnd⟩ := hW
  rw [hv] at hV
  obtain ⟨rfl, rfl⟩ := trodVars_none hV
  have hdl : ∀ (ts : List TypeId) (vs : List Value) (ds : List (DataW H)) (ps : List MemPlace), DataW.TrodAll enc P W 0 (fun _ => true) true ts vs ds ps → ds.length = ts.length := by
    intro ts
    induction ts with
    | nil => intro vs ds ps h; obtain ⟨_, rfl, _⟩ := trodAll_nil h; rfl
    | cons t ts ih =>
      intro vs ds ps h
      obtain ⟨v, vs', d, ds', p, q, _, rfl, _, _, h2⟩ := trodAll_cons h
      simp [ih _ _ _ h2]
  have hfn' := hfn ds (by simpa using hdl _ _ _ _ hA)
  refine ⟨ds, [], p ++ [], [], p, [], hW', ?_, ?_, ?_, keep_kept hk _, fun h => by cases h⟩
  · rw [List.append_nil, hfn', hr]
    exact trodAll_cons_mk (p := []) (p' := []) (shut_bool hbt true) trodAll_mk0
  · rw [List.append_nil, hfn']
    exact trodAll_stay K hsz hk _ _ _ _ hT hA fun x hx => by
      have := hW'.lt x (by simpa using hx)
      exact ⟨this, by simpa using this⟩
  · rw [hv, List.append_nil, hfn']
    rfl
end
end Go.Proofs.YtbllgmcpebifhaaGreatDoor.K
end
