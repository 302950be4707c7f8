/- The engine, part g: rules in the form that scripts use: comparisons as propositions, sums that do not wrap. -/
import Derived.Test.YtbllgmcpebifhaaDoorKf
namespace Go.Proofs.YtbllgmcpebifhaaDoor.K
open Go Go.RowKit
set_option linter.all false

theorem w_i64 {x : Int} (h : -9223372036854775808 ≤ x ∧ x ≤ 9223372036854775807) : IntKind.i64.wrap x = x := by rw [IntKind.wrap_i64]; omega
theorem w_u64 {x : Int} (h : 0 ≤ x ∧ x ≤ 18446744073709551615) : IntKind.u64.wrap x = x := by rw [IntKind.wrap_u64]; omega
theorem w_u32 {x : Int} (h : 0 ≤ x ∧ x ≤ 4294967295) : IntKind.u32.wrap x = x := by rw [IntKind.wrap_u32]; omega
theorem w_i32 {x : Int} (h : -2147483648 ≤ x ∧ x ≤ 2147483647) : IntKind.i32.wrap x = x := by rw [IntKind.wrap_i32]; omega
theorem w_u8 {x : Int} (h : 0 ≤ x ∧ x ≤ 255) : IntKind.u8.wrap x = x := by rw [IntKind.wrap_u8]; omega

theorem m_u32 (x : Int) : IntKind.u32.wrap x = x % 4294967296 := rfl
theorem m_u64 (x : Int) : IntKind.u64.wrap x = x % 18446744073709551616 := rfl
theorem m_u8 (x : Int) : IntKind.u8.wrap x = x % 256 := rfl
inductive Regs0 : List Value → Regs → Prop
  | n0 : Regs0 [] []
  | n1 {v0 : Value} : Regs0 [v0] [(0, v0)]
  | n2 {v0 v1 : Value} : Regs0 [v0, v1] [(0, v0), (1, v1)]
  | n3 {v0 v1 v2 : Value} : Regs0 [v0, v1, v2] [(0, v0), (1, v1), (2, v2)]
  | n4 {v0 v1 v2 v3 : Value} : Regs0 [v0, v1, v2, v3] [(0, v0), (1, v1), (2, v2), (3, v3)]
  | n5 {v0 v1 v2 v3 v4 : Value} : Regs0 [v0, v1, v2, v3, v4] [(0, v0), (1, v1), (2, v2), (3, v3), (4, v4)]
  | n6 {v0 v1 v2 v3 v4 v5 : Value} : Regs0 [v0, v1, v2, v3, v4, v5] [(0, v0), (1, v1), (2, v2), (3, v3), (4, v4), (5, v5)]
  | n7 {v0 v1 v2 v3 v4 v5 v6 : Value} : Regs0 [v0, v1, v2, v3, v4, v5, v6] [(0, v0), (1, v1), (2, v2), (3, v3), (4, v4), (5, v5), (6, v6)]
  | n8 {v0 v1 v2 v3 v4 v5 v6 v7 : Value} : Regs0 [v0, v1, v2, v3, v4, v5, v6, v7] [(0, v0), (1, v1), (2, v2), (3, v3), (4, v4), (5, v5), (6, v6), (7, v7)]
  | n9 {v0 v1 v2 v3 v4 v5 v6 v7 v8 : Value} : Regs0 [v0, v1, v2, v3, v4, v5, v6, v7, v8] [(0, v0), (1, v1), (2, v2), (3, v3), (4, v4), (5, v5), (6, v6), (7, v7), (8, v8)]
  | n10 {v0 v1 v2 v3 v4 v5 v6 v7 v8 v9 : Value} : Regs0 [v0, v1, v2, v3, v4, v5, v6, v7, v8, v9] [(0, v0), (1, v1), (2, v2), (3, v3), (4, v4), (5, v5), (6, v6), (7, v7), (8, v8), (9, v9)]
  | n11 {v0 v1 v2 v3 v4 v5 v6 v7 v8 v9 v10 : Value} : Regs0 [v0, v1, v2, v3, v4, v5, v6, v7, v8, v9, v10] [(0, v0), (1, v1), (2, v2), (3, v3), (4, v4), (5, v5), (6, v6), (7, v7), (8, v8), (9, v9), (10, v10)]
  | n12 {v0 v1 v2 v3 v4 v5 v6 v7 v8 v9 v10 v11 : Value} : Regs0 [v0, v1, v2, v3, v4, v5, v6, v7, v8, v9, v10, v11] [(0, v0), (1, v1), (2, v2), (3, v3), (4, v4), (5, v5), (6, v6), (7, v7), (8, v8), (9, v9), (10, v10), (11, v11)]
theorem Regs0.eq {l : List Value} {m : Regs} (h : Regs0 l m) : regsOf 0 l = m := by cases h <;> rfl

theorem enter {P : Program} {f : FuncId} {fn : Func} {c : Code} {args : List Value} {m0 : Regs} {N : Nat} {L : List Own} {F : List Fact} {post : Value → List Own → List Fact → Prop}
    (hf : P.funcs[f]? = some fn) (hN : fn.ntmps = N) (hb : fn.body = some c) (hnm : (fn.name == "runtime.NumGoroutine") = false) (hm : Regs0 args m0) (hn : Nat.ble args.length N = true)
    (h : ∀ G : Ctx, RunC G N P c (bodyPost P fn (Fin G post)) m0 L F) : Spec P f args L F post := by
  subst hN
  refine spec_intro hf hb hnm (Nat.le_of_ble_eq_true hn) fun G => ?_
  rw [hm.eq]
  exact h G

section
variable {G : Ctx} {n : Nat} {P : Program} {ops : Array Oper} {Q : Post} {rest : List Oper} {m : Regs} {L L' L'' : List Own} {F : List Fact} {a : Act} {w w' : World}
variable {d s : Nat} {ty : TypeId} {pos : String} {af : Array Edge} {g : Option (Nat × Bool)}

theorem l_lt {t yt : TypeId} {x y : Operand} {k : IntKind} {p q : Int} (hw : wantG ops m g = some true) (hx : ev m x = some (.int k p)) (hy : ev m y = some (.int k q)) (hd : Nat.blt d n = true)
    (h : RunL G n P ops Q rest ((d, .bool (decide (p < q))) :: m) L F) : RunL G n P ops Q (⟨some d, .binOp .lss t x y yt, ty, pos, af, g⟩ :: rest) m L F := l_cmp rfl hw hx hy hd rfl h
theorem l_le {t yt : TypeId} {x y : Operand} {k : IntKind} {p q : Int} (hw : wantG ops m g = some true) (hx : ev m x = some (.int k p)) (hy : ev m y = some (.int k q)) (hd : Nat.blt d n = true)
    (h : RunL G n P ops Q rest ((d, .bool (decide (p ≤ q))) :: m) L F) : RunL G n P ops Q (⟨some d, .binOp .leq t x y yt, ty, pos, af, g⟩ :: rest) m L F := l_cmp rfl hw hx hy hd rfl h
theorem l_gt {t yt : TypeId} {x y : Operand} {k : IntKind} {p q : Int} (hw : wantG ops m g = some true) (hx : ev m x = some (.int k p)) (hy : ev m y = some (.int k q)) (hd : Nat.blt d n = true)
    (h : RunL G n P ops Q rest ((d, .bool (decide (q < p))) :: m) L F) : RunL G n P ops Q (⟨some d, .binOp .gtr t x y yt, ty, pos, af, g⟩ :: rest) m L F := l_cmp rfl hw hx hy hd rfl h
theorem l_ge {t yt : TypeId} {x y : Operand} {k : IntKind} {p q : Int} (hw : wantG ops m g = some true) (hx : ev m x = some (.int k p)) (hy : ev m y = some (.int k q)) (hd : Nat.blt d n = true)
    (h : RunL G n P ops Q rest ((d, .bool (decide (q ≤ p))) :: m) L F) : RunL G n P ops Q (⟨some d, .binOp .geq t x y yt, ty, pos, af, g⟩ :: rest) m L F := l_cmp rfl hw hx hy hd rfl h
theorem l_eq {t yt : TypeId} {x y : Operand} {k : IntKind} {p q : Int} (hw : wantG ops m g = some true) (hx : ev m x = some (.int k p)) (hy : ev m y = some (.int k q)) (hd : Nat.blt d n = true)
    (h : RunL G n P ops Q rest ((d, .bool (decide (p = q))) :: m) L F) : RunL G n P ops Q (⟨some d, .binOp .eql t x y yt, ty, pos, af, g⟩ :: rest) m L F := l_cmp rfl hw hx hy hd rfl h
theorem l_ne {t yt : TypeId} {x y : Operand} {k : IntKind} {p q : Int} (hw : wantG ops m g = some true) (hx : ev m x = some (.int k p)) (hy : ev m y = some (.int k q)) (hd : Nat.blt d n = true)
    (h : RunL G n P ops Q rest ((d, .bool (decide (p ≠ q))) :: m) L F) : RunL G n P ops Q (⟨some d, .binOp .neq t x y yt, ty, pos, af, g⟩ :: rest) m L F := l_cmp rfl hw hx hy hd (by
      show (p != q) = decide (p ≠ q)
      by_cases h : p = q <;> simp [h]) h
theorem l_notD {t : TypeId} {x : Operand} {p : Prop} {_ : Decidable p} (hw : wantG ops m g = some true) (hx : ev m x = some (.bool (decide p))) (hd : Nat.blt d n = true)
    (h : RunL G n P ops Q rest ((d, .bool (decide (¬ p))) :: m) L F) : RunL G n P ops Q (⟨some d, .unOp .not t x, ty, pos, af, g⟩ :: rest) m L F :=
  l_not hw hx hd (by by_cases h : p <;> simp [h]) h
theorem l_notB {t : TypeId} {x : Operand} {p : Bool} (hw : wantG ops m g = some true) (hx : ev m x = some (.bool p)) (hd : Nat.blt d n = true)
    (h : RunL G n P ops Q rest ((d, .bool (!p)) :: m) L F) : RunL G n P ops Q (⟨some d, .unOp .not t x, ty, pos, af, g⟩ :: rest) m L F :=
  l_not hw hx hd rfl h
/-- The guard of the operation at hand: both ways. -/
theorem l_guard {op : Op} {dst : Option Tmp} {j : Nat} {want : Bool} {t : Nat} {p : Prop} {_ : Decidable p} (hj : (ops[j]?).bind (·.dst) = some t) (ht : look m t = some (.bool (decide p)))
    (h1 : p → RunL G n P ops Q (⟨dst, op, ty, pos, af, some (j, want)⟩ :: rest) ((t, .bool true) :: m) L F) (h2 : ¬ p → RunL G n P ops Q (⟨dst, op, ty, pos, af, some (j, want)⟩ :: rest) ((t, .bool false) :: m) L F) :
    RunL G n P ops Q (⟨dst, op, ty, pos, af, some (j, want)⟩ :: rest) m L F := by
  by_cases hp : p
  · exact l_know true ht (decide_eq_true hp) (h1 hp)
  · exact l_know false ht (decide_eq_false hp) (h2 hp)
theorem l_guardB {op : Op} {dst : Option Tmp} {j : Nat} {want : Bool} {t : Nat} {b : Bool} (hj : (ops[j]?).bind (·.dst) = some t) (ht : look m t = some (.bool b))
    (h1 : b = true → RunL G n P ops Q (⟨dst, op, ty, pos, af, some (j, want)⟩ :: rest) ((t, .bool true) :: m) L F) (h2 : b = false → RunL G n P ops Q (⟨dst, op, ty, pos, af, some (j, want)⟩ :: rest) ((t, .bool false) :: m) L F) :
    RunL G n P ops Q (⟨dst, op, ty, pos, af, some (j, want)⟩ :: rest) m L F := by
  cases b with
  | true => exact l_know true ht rfl (h1 rfl)
  | false => exact l_know false ht rfl (h2 rfl)
theorem c_dec {c : Operand} {x y : Code} {p : Prop} {_ : Decidable p} (hb : ev m c = some (.bool (decide p))) (ht : p → RunC G n P x Q m L F) (hf : ¬ p → RunC G n P y Q m L F) : RunC G n P (.cond c x y) Q m L F :=
  c_cond hb (fun h => ht (of_decide_eq_true h)) (fun h => hf (of_decide_eq_false h))
theorem c_bool {c : Operand} {x y : Code} {b : Bool} (hb : ev m c = some (.bool b)) (ht : b = true → RunC G n P x Q m L F) (hf : b = false → RunC G n P y Q m L F) : RunC G n P (.cond c x y) Q m L F := c_cond hb ht hf
theorem c_notB {c : Operand} {x y : Code} {b : Bool} (hb : ev m c = some (.bool (!b))) (ht : b = false → RunC G n P x Q m L F) (hf : b = true → RunC G n P y Q m L F) : RunC G n P (.cond c x y) Q m L F :=
  c_cond hb (fun h => ht (by simpa using h)) (fun h => hf (by simpa using h))
theorem c_yes {c : Operand} {x y : Code} (hb : ev m c = some (.bool true)) (ht : RunC G n P x Q m L F) : RunC G n P (.cond c x y) Q m L F := c_true hb rfl ht
theorem c_no {c : Operand} {x y : Code} (hb : ev m c = some (.bool false)) (hf : RunC G n P y Q m L F) : RunC G n P (.cond c x y) Q m L F := c_false hb rfl hf

/-! ### rows that hold a list through a function -/
theorem propId {p : Prop} (h : p) : p := h
theorem le_maxLen {j : Nat} (h : j ≤ 9223372036854775807) : j ≤ maxLen := by simp only [maxLen]; omega
theorem cs_add (i k : Nat) : (i : Int) + (k : Int) = ((i + k : Nat) : Int) := by omega
theorem cs_add1 (i k : Nat) : (i : Int) + (k : Int) + 1 = ((i + k + 1 : Nat) : Int) := by omega
theorem cs_one (i : Nat) : (i : Int) + 1 = ((i + 1 : Nat) : Int) := by omega
theorem cs_two (i : Nat) : (i : Int) + 2 = ((i + 2 : Nat) : Int) := by omega
theorem cs_sub (i k : Nat) (h : k ≤ i) : (i : Int) - (k : Int) = ((i - k : Nat) : Int) := by omega
theorem cs_pred (i : Nat) (h : 1 ≤ i) : (i : Int) - 1 = ((i - 1 : Nat) : Int) := by omega
theorem cs_l1 : (1 : Int) = ((1 : Nat) : Int) := rfl
theorem cs_l2 : (2 : Int) = ((2 : Nat) : Int) := rfl
theorem cs_l3 : (3 : Int) = ((3 : Nat) : Int) := rfl
theorem cs_zero : (0 : Int) = ((0 : Nat) : Int) := rfl
theorem cs_nat {q : Int} (h : 0 ≤ q) : q = (q.toNat : Int) := (Int.toNat_of_nonneg h).symm

variable {α : Type} {R : Rep α} {v : Value} {l : List α}
theorem l_indexList1 {t e : TypeId} {z : Value} {by' : Nat} {x i : Operand} {k : IntKind} {q : Int} [u : Und P t (.slice e)] [f : Inf P e z 1 by'] (j : Nat) (hw : wantG ops m g = some true) (hx : ev m x = some v) (hi : ev m i = some (.int k q)) (hF : fList 1 R v l ∈ F) (hd : Nat.blt d n = true)
    (hq : q = (j : Int)) (hj : j < l.length) (h : RunL G n P ops Q rest ((d, elemPtr v j) :: m) L F) : RunL G n P ops Q (⟨some d, .indexAddr t x i, ty, pos, af, g⟩ :: rest) m L F :=
  l_indexList j hw hx hi hF hd hq hj (by rw [Nat.mul_one]; exact h)
theorem l_indexRow1 {t e : TypeId} {z : Value} {by' : Nat} {x i : Operand} {k : IntKind} {q : Int} {E : TypeId} {N : Nat} {xs : List Value} [u : Und P t (.slice e)] [f : Inf P e z 1 by'] (j : Nat) (hw : wantG ops m g = some true) (hx : ev m x = some v) (hi : ev m i = some (.int k q)) (hB : Has L F (.row v E 1 N xs)) (hd : Nat.blt d n = true)
    (hq : q = (j : Int)) (hj : j < N) (h : RunL G n P ops Q rest ((d, elemPtr v j) :: m) L F) : RunL G n P ops Q (⟨some d, .indexAddr t x i, ty, pos, af, g⟩ :: rest) m L F :=
  l_indexRow j hw hx hi hB hd hq hj (by rw [Nat.mul_one]; exact h)

theorem l_makeMap {t e : TypeId} {z : Value} {by' : Nat} [u : Und P t (.slice e)] [i : Inf P e z 1 by'] {x y : Operand} {kl kc : IntKind} {q q' : Int} (j : Nat) {f : α → Value} {a0 : α} (hw : wantG ops m g = some true) (hx : ev m x = some (.int kl q)) (hy : ev m y = some (.int kc q')) (hd : Nat.blt d n = true)
    (hz : z.cells = #[z]) (hf : z = f a0) (hq : q = (j : Int)) (hq' : q' = (j : Int)) (h63 : j ≤ 9223372036854775807) (hb : by' * j ≤ 281474976710656)
    (h : ∀ v, RunL G n P ops Q rest ((d, v) :: m) (.row v e 1 j ((List.replicate j a0).map f) :: L) F) : RunL G n P ops Q (⟨some d, .makeSlice t x y, ty, pos, af, g⟩ :: rest) m L F :=
  l_make j hw hx hy hd hz hq hq' (le_maxLen h63) hb fun v => by rw [hf, ← List.map_replicate]; exact h v
theorem l_makeI {t e : TypeId} {z0 : Int} {ik : IntKind} {by' : Nat} [u : Und P t (.slice e)] [i : Inf P e (.int ik z0) 1 by'] {x y : Operand} {kl kc : IntKind} {q q' : Int} (j : Nat) (hw : wantG ops m g = some true) (hx : ev m x = some (.int kl q)) (hy : ev m y = some (.int kc q')) (hd : Nat.blt d n = true)
    (hq : q = (j : Int)) (hq' : q' = (j : Int)) (h63 : j ≤ 9223372036854775807) (hb : by' * j ≤ 281474976710656)
    (h : ∀ v, RunL G n P ops Q rest ((d, v) :: m) (.row v e 1 j ((List.replicate j z0).map (Value.int ik)) :: L) F) : RunL G n P ops Q (⟨some d, .makeSlice t x y, ty, pos, af, g⟩ :: rest) m L F :=
  l_makeMap j hw hx hy hd rfl rfl hq hq' h63 hb h
theorem l_makeB {t e : TypeId} {z0 : Bool} {by' : Nat} [u : Und P t (.slice e)] [i : Inf P e (.bool z0) 1 by'] {x y : Operand} {kl kc : IntKind} {q q' : Int} (j : Nat) (hw : wantG ops m g = some true) (hx : ev m x = some (.int kl q)) (hy : ev m y = some (.int kc q')) (hd : Nat.blt d n = true)
    (hq : q = (j : Int)) (hq' : q' = (j : Int)) (h63 : j ≤ 9223372036854775807) (hb : by' * j ≤ 281474976710656)
    (h : ∀ v, RunL G n P ops Q rest ((d, v) :: m) (.row v e 1 j ((List.replicate j z0).map Value.bool) :: L) F) : RunL G n P ops Q (⟨some d, .makeSlice t x y, ty, pos, af, g⟩ :: rest) m L F :=
  l_makeMap j hw hx hy hd rfl rfl hq hq' h63 hb h
theorem l_loadMap {t : TypeId} {D : TypeDesc} {x : Operand} {E : TypeId} {N k : Nat} {f : α → Value} {y : α} [u : Und P t D] (hw : wantG ops m g = some true) (hx : ev m x = some (elemPtr v k)) (hB : Has L F (.row v E 1 N (l.map f))) (hD : aggD D = false) (hy : l[k]? = some y) (hd : Nat.blt d n = true)
    (h : RunL G n P ops Q rest ((d, f y) :: m) L F) : RunL G n P ops Q (⟨some d, .load t x, ty, pos, af, g⟩ :: rest) m L F :=
  l_loadRow hw hx hB hD (by rw [List.getElem?_map, hy]; rfl) hd h
theorem l_storeMap {t : TypeId} {z : Value} {by' : Nat} [i : Inf P t z 1 by'] {x y : Operand} {E : TypeId} {N k : Nat} {f : α → Value} {b : α} (hw : wantG ops m g = some true) (hx : ev m x = some (elemPtr v k)) (hu : Upd L (.row v E 1 N (l.map f)) (.row v E 1 N ((l.set k b).map f)) L') (hy : ev m y = some (f b))
    (hc : Cells (f b) [f b]) (h1 : (f b).oneCell' = true) (hk : k < l.length) (h : RunL G n P ops Q rest m L' F) : RunL G n P ops Q (⟨none, .store t x y, ty, pos, af, g⟩ :: rest) m L F :=
  l_storeRow hw hx hy (by rw [← List.map_set]; exact hu) hc h1 (by simpa using hk) h
variable {LF : Value → List Own}
/-- append of one value: a literal's row, then the append. -/
theorem l_lit1 {t e : TypeId} {z : Value} {by' : Nat} [u : Und P t (.slice e)] [f : Inf P e z 1 by'] {x : Operand} {b : Value} (hw : wantG ops m g = some true) (hx : ev m x = some b) (hd : Nat.blt d n = true) (hz : z.cells = #[z]) (hc : Cells b [b])
    (h : ∀ v, RunL G n P ops Q rest ((d, v) :: m) (.row v e 1 1 [b] :: L) F) : RunL G n P ops Q (⟨some d, .buildSlice t 1 #[(0, x)], ty, pos, af, g⟩ :: rest) m L F :=
  l_lit (pv := [(0, b)]) (cs := [b]) hw hd (fun a he => by simp [he.eval hx]) (by omega) (by
    have h1 : b.cells.size = 1 := by rw [hc.size]; rfl
    have h2 : b.cells = #[b] := Array.toList_inj.1 (by rw [hc.eq])
    simp [Instr.fill, hz, h2]
    apply Array.toList_inj.1
    simp [List.range_succ]) (by simp) (by omega) h
theorem l_lit0 {t e : TypeId} {z : Value} {by' : Nat} [u : Und P t (.slice e)] [f : Inf P e z s by'] (hw : wantG ops m g = some true) (hd : Nat.blt d n = true)
    (h : ∀ v, RunL G n P ops Q rest ((d, v) :: m) (.row v e s 0 [] :: L) F) : RunL G n P ops Q (⟨some d, .buildSlice t 0 #[], ty, pos, af, g⟩ :: rest) m L F :=
  l_lit (pv := []) (cs := []) hw hd (fun a he => by simp) (by omega) (by simp [Instr.fill]) (by simp) (by simp) h
theorem l_append1 {t e : TypeId} {z : Value} {by' : Nat} [u : Und P t (.slice e)] [f : Inf P e z 1 by'] {x y : Operand} {E : TypeId} {N : Nat} {b : α} {fv : α → Value} {vs : Value} {L1 : List Own} (hw : wantG ops m g = some true) (hx : ev m x = some v) (hy : ev m y = some vs) (hd : Nat.blt d n = true)
    (hs : Nat.beq z.cells.size 1 = true) (hE : Era L (.row vs E 1 1 [fv b]) L1) (hu : ∀ v', Upd L1 (.row v e 1 N (l.map fv)) (.row v' e 1 (N + 1) ((l ++ [b]).map fv)) (LF v')) (h1 : (fv b).oneCell' = true)
    (h63 : N < 9223372036854775807) (hb : (N + 1) * by' ≤ 140737488355328)
    (h : ∀ v', RunL G n P ops Q rest ((d, v') :: m) (LF v') F) : RunL G n P ops Q (⟨some d, .call ⟨.builtin .append, #[x, y], #[t, t]⟩, ty, pos, af, g⟩ :: rest) m L F := by
  have hm : (l ++ [b]).map fv = l.map fv ++ [fv b] := by simp
  refine l_step hw fun a w st => ?_
  have hS := st.own.all _ hE.mem
  have st' := st.era hE
  obtain ⟨v', w', r1, r2, r3, r4⟩ := run_append (P := P) (t := t) hs rfl (st'.own.all _ (hu v).mem) (src_row hS) (by intro y hy; simp at hy; subst hy; exact h1) (le_maxLen (by omega)) hb ty
  refine ⟨v', w', ?_, h v' _ _ ((st'.upd (hu v') r3 (by rw [hm]; exact r2) r4).put hd v')⟩
  simp [execOp, st.env.eval hx, st.env.eval hy, resolve, invoke, builtin, r1]

/-! ### the end of a round -/
theorem e_again {ι : Type} {mI : ι → Regs} {LI : ι → List Own} {FI : ι → List Fact} {μ : ι → Nat} {k : Nat} (i' : ι) (hμ : μ i' < k) (hm : ∀ t v, look (mI i') t = some v → look m t = some v) (hL : L = LI i') (hF : ∀ φ, φ ∈ FI i' → φ ∈ F) :
    Ends G n (Exit.then (fun a w => ∃ i', μ i' < k ∧ St G n (mI i') (LI i') (FI i') a w) Q) .normal m L F := by
  subst hL
  exact fun a w s => ⟨i', hμ, s.sub hm hF⟩
theorem St.start {m' : Regs} {F' : List Fact} (s : St G n m L F a w) (hm : ∀ t v, look m' t = some v → look m t = some v) (hL : L = L') (hF : ∀ φ, φ ∈ F' → φ ∈ F) : St G n m' L' F' a w := by
  subst hL; exact s.sub hm hF
theorem sub_same {m m' : Regs} {t : Nat} {v v' : Value} (h : look m t = some v') (hv : v' = v) (hr : ∀ t v, look m' t = some v → look m t = some v) :
    ∀ s u, look ((t, v) :: m') s = some u → look m s = some u := sub_cons (hv ▸ h) hr
end
end Go.Proofs.YtbllgmcpebifhaaDoor.K
