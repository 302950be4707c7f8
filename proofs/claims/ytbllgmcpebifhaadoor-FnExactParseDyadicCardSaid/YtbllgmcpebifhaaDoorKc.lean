/- The engine, part c: boxes, calls, what is told of lists. -/
import Derived.Test.YtbllgmcpebifhaaDoorKb
namespace Go.Proofs.YtbllgmcpebifhaaDoor.K
open Go Go.RowKit
set_option linter.all false

/-! ### the program's types -/
class Und (P : Program) (t : TypeId) (D : outParam TypeDesc) : Prop where
  out : P.underlying t = some D
class Inf (P : Program) (t : TypeId) (z : outParam Value) (size bytes : outParam Nat) : Prop where
  out : (P.info? t).map (fun i => (i.zero, i.size, i.bytes)) = some (some z, size, bytes)

theorem Inf.parts {P : Program} {t : TypeId} {z : Value} {size bytes : Nat} (h : Inf P t z size bytes) : ∃ i, P.info? t = some i ∧ i.zero = some z ∧ i.size = size ∧ i.bytes = bytes :=
  info_parts h.out

theorem run_sizeOf {P : Program} {t : TypeId} {z : Value} {size bytes : Nat} (h : Inf P t z size bytes) (w : World) : (sizeOf t).run P w = .ok size w := by
  obtain ⟨i, h1, h2, h3, h4⟩ := h.parts
  simp [sizeOf, typeInfo, h1, h3]
theorem run_zero {P : Program} {t : TypeId} {z : Value} {size bytes : Nat} (h : Inf P t z size bytes) (w : World) : (zeroValue t).run P w = .ok z w := by
  obtain ⟨i, h1, h2, h3, h4⟩ := h.parts
  simp [zeroValue, typeInfo, h1, h2]

def aggD : TypeDesc → Bool
  | .struct _ => true
  | .array _ _ => true
  | _ => false
theorem run_isAgg {P : Program} {t : TypeId} {D : TypeDesc} (h : Und P t D) (w : World) : (isAgg t).run P w = .ok (aggD D) w := by
  unfold isAgg
  rw [Sem.run_bind, run_underlying h.out w]
  cases D <;> rfl

/-! ### lists of cells, told by constructors -/
inductive Fst : Nat → List Value → List Value → Prop
  | nil {c : List Value} : Fst 0 c []
  | cons {k : Nat} {x : Value} {r cs : List Value} : Fst k r cs → Fst (k + 1) (x :: r) (x :: cs)
inductive TakeAt : List Value → Nat → Nat → List Value → Prop
  | here {c : List Value} {k : Nat} {cs : List Value} : Fst k c cs → TakeAt c 0 k cs
  | next {x : Value} {r : List Value} {o k : Nat} {cs : List Value} : TakeAt r o k cs → TakeAt (x :: r) (o + 1) k cs
inductive Pre : List Value → List Value → List Value → Prop
  | nil {c : List Value} : Pre [] c c
  | cons {v x : Value} {vs r r' : List Value} : Pre vs r r' → Pre (v :: vs) (x :: r) (v :: r')
inductive PutAt : List Value → Nat → List Value → List Value → Prop
  | here {c vs c' : List Value} : Pre vs c c' → PutAt c 0 vs c'
  | next {x : Value} {r r' : List Value} {o : Nat} {vs : List Value} : PutAt r o vs r' → PutAt (x :: r) (o + 1) vs (x :: r')
inductive Cells : Value → List Value → Prop
  | agg {vs : List Value} : Cells (.agg vs.toArray) vs
  | bool {b : Bool} : Cells (.bool b) [.bool b]
  | int {k : IntKind} {x : Int} : Cells (.int k x) [.int k x]
  | float {k : FloatKind} {x : Nat} : Cells (.float k x) [.float k x]
  | complex {k : FloatKind} {x y : Nat} : Cells (.complex k x y) [.complex k x y]
  | string {s : ByteArray} : Cells (.string s) [.string s]
  | pointer {a : Option Addr} : Cells (.pointer a) [.pointer a]
  | slice {a : Option Addr} {l c : Nat} : Cells (.slice a l c) [.slice a l c]
  | func {f : Fn} {x y : Array Value} : Cells (.func f x y) [.func f x y]
  | nilFunc : Cells .nilFunc [.nilFunc]
  | nilIface : Cells .nilIface [.nilIface]
  | iface {t : TypeId} {v : Value} : Cells (.iface t v) [.iface t v]
/-- A slice in a variable. -/
theorem Cells.ofSlice {v : Value} (h : ∃ a l c, v = .slice a l c) : Cells v [v] := by
  obtain ⟨a, l, c, rfl⟩ := h
  exact .slice

theorem Cells.eq {v : Value} {vs : List Value} (h : Cells v vs) : v.cells.toList = vs := by cases h <;> rfl
theorem Cells.size {v : Value} {vs : List Value} (h : Cells v vs) : v.cells.size = vs.length := by rw [← h.eq]; simp

theorem Fst.eq {k : Nat} {c cs : List Value} (h : Fst k c cs) : cs = c.take k ∧ k ≤ c.length := by
  induction h with
  | nil => exact ⟨rfl, Nat.zero_le _⟩
  | cons _ ih => exact ⟨by rw [List.take_succ_cons, ← ih.1], by simp; omega⟩
theorem TakeAt.eq {c : List Value} {o k : Nat} {cs : List Value} (h : TakeAt c o k cs) : cs = (c.drop o).take k ∧ o + k ≤ c.length := by
  induction h with
  | here h => have := h.eq; exact ⟨by simpa using this.1, by omega⟩
  | next _ ih => exact ⟨by rw [List.drop_succ_cons, ← ih.1], by simp; omega⟩
theorem Pre.eq {vs c c' : List Value} (h : Pre vs c c') : c' = vs ++ c.drop vs.length ∧ vs.length ≤ c.length := by
  induction h with
  | nil => exact ⟨rfl, Nat.zero_le _⟩
  | cons _ ih => exact ⟨by rw [List.length_cons, List.drop_succ_cons, List.cons_append, ← ih.1], by simp; exact ih.2⟩
theorem PutAt.eq {c : List Value} {o : Nat} {vs c' : List Value} (h : PutAt c o vs c') : c' = c.take o ++ vs ++ c.drop (o + vs.length) ∧ o + vs.length ≤ c.length := by
  induction h with
  | here h => have := h.eq; exact ⟨by simpa using this.1, by omega⟩
  | next _ ih =>
    refine ⟨?_, by simp; omega⟩
    rw [ih.1, List.take_succ_cons]
    have : ∀ k o : Nat, o + 1 + k = (o + k) + 1 := by omega
    rw [this, List.drop_succ_cons]
    rfl

/-- A small sum, said by a numeral. -/
inductive PlusN : Nat → Nat → Nat → Prop
  | zero {k : Nat} : PlusN 0 k k
  | zero' {k : Nat} : PlusN k 0 k
  | p1_1 : PlusN 1 1 2
  | p1_2 : PlusN 1 2 3
  | p1_3 : PlusN 1 3 4
  | p1_4 : PlusN 1 4 5
  | p1_5 : PlusN 1 5 6
  | p1_6 : PlusN 1 6 7
  | p1_7 : PlusN 1 7 8
  | p1_8 : PlusN 1 8 9
  | p2_1 : PlusN 2 1 3
  | p2_2 : PlusN 2 2 4
  | p2_3 : PlusN 2 3 5
  | p2_4 : PlusN 2 4 6
  | p2_5 : PlusN 2 5 7
  | p2_6 : PlusN 2 6 8
  | p2_7 : PlusN 2 7 9
  | p2_8 : PlusN 2 8 10
  | p3_1 : PlusN 3 1 4
  | p3_2 : PlusN 3 2 5
  | p3_3 : PlusN 3 3 6
  | p3_4 : PlusN 3 4 7
  | p3_5 : PlusN 3 5 8
  | p3_6 : PlusN 3 6 9
  | p3_7 : PlusN 3 7 10
  | p3_8 : PlusN 3 8 11
  | p4_1 : PlusN 4 1 5
  | p4_2 : PlusN 4 2 6
  | p4_3 : PlusN 4 3 7
  | p4_4 : PlusN 4 4 8
  | p4_5 : PlusN 4 5 9
  | p4_6 : PlusN 4 6 10
  | p4_7 : PlusN 4 7 11
  | p4_8 : PlusN 4 8 12
  | p5_1 : PlusN 5 1 6
  | p5_2 : PlusN 5 2 7
  | p5_3 : PlusN 5 3 8
  | p5_4 : PlusN 5 4 9
  | p5_5 : PlusN 5 5 10
  | p5_6 : PlusN 5 6 11
  | p5_7 : PlusN 5 7 12
  | p5_8 : PlusN 5 8 13
  | p6_1 : PlusN 6 1 7
  | p6_2 : PlusN 6 2 8
  | p6_3 : PlusN 6 3 9
  | p6_4 : PlusN 6 4 10
  | p6_5 : PlusN 6 5 11
  | p6_6 : PlusN 6 6 12
  | p6_7 : PlusN 6 7 13
  | p6_8 : PlusN 6 8 14
  | p7_1 : PlusN 7 1 8
  | p7_2 : PlusN 7 2 9
  | p7_3 : PlusN 7 3 10
  | p7_4 : PlusN 7 4 11
  | p7_5 : PlusN 7 5 12
  | p7_6 : PlusN 7 6 13
  | p7_7 : PlusN 7 7 14
  | p7_8 : PlusN 7 8 15
  | p8_1 : PlusN 8 1 9
  | p8_2 : PlusN 8 2 10
  | p8_3 : PlusN 8 3 11
  | p8_4 : PlusN 8 4 12
  | p8_5 : PlusN 8 5 13
  | p8_6 : PlusN 8 6 14
  | p8_7 : PlusN 8 7 15
  | p8_8 : PlusN 8 8 16
theorem PlusN.eq {a b c : Nat} (h : PlusN a b c) : c = a + b := by cases h <;> simp

/-! ### what is owned, changed -/
inductive Upd : List Own → Own → Own → List Own → Prop
  | head {o o' : Own} {L : List Own} : Upd (o :: L) o o' (o' :: L)
  | tail {o o' p : Own} {L L' : List Own} : Upd L o o' L' → Upd (p :: L) o o' (p :: L')
inductive Era : List Own → Own → List Own → Prop
  | head {o : Own} {L : List Own} : Era (o :: L) o L
  | tail {o p : Own} {L L' : List Own} : Era L o L' → Era (p :: L) o (p :: L')

theorem Upd.mem {L L' : List Own} {o o' : Own} (h : Upd L o o' L') : o ∈ L := by
  induction h with
  | head => exact .head _
  | tail _ ih => exact .tail _ ih
theorem Upd.keys {L L' : List Own} {o o' : Own} (h : Upd L o o' L') {x : Nat} (hx : K.keys L' x) : o'.key x ∨ K.keys L x := by
  induction h with
  | head =>
    rcases (keys_cons _ _ _).1 hx with h | h
    · exact .inl h
    · exact .inr ((keys_cons _ _ _).2 (.inr h))
  | tail _ ih =>
    rcases (keys_cons _ _ _).1 hx with h | h
    · exact .inr ((keys_cons _ _ _).2 (.inl h))
    · rcases ih h with h | h
      · exact .inl h
      · exact .inr ((keys_cons _ _ _).2 (.inr h))
theorem Era.mem {L L' : List Own} {o : Own} (h : Era L o L') : o ∈ L := by
  induction h with
  | head => exact .head _
  | tail _ ih => exact .tail _ ih
theorem Era.sub {L L' : List Own} {o : Own} (h : Era L o L') {p : Own} (hp : p ∈ L') : p ∈ L := by
  induction h with
  | head => exact .tail _ hp
  | tail _ ih =>
    cases hp with
    | head => exact .head _
    | tail _ h => exact .tail _ (ih h)
theorem Era.keys {L L' : List Own} {o : Own} (h : Era L o L') {x : Nat} (hx : K.keys L' x) : K.keys L x := by
  obtain ⟨p, hp, hk⟩ := hx
  exact ⟨p, h.sub hp, hk⟩
theorem Era.apart {L L' : List Own} {o : Own} (h : Era L o L') (ha : K.apart L) : K.apart L' ∧ ∀ x, o.key x → ¬ K.keys L' x := by
  induction h with
  | head => exact ⟨ha.2, ha.1⟩
  | tail h ih =>
    obtain ⟨i1, i2⟩ := ih ha.2
    refine ⟨⟨fun x hx hk => ha.1 x hx (h.keys hk), i1⟩, fun x hx hk => ?_⟩
    rcases (keys_cons _ _ _).1 hk with h' | h'
    · exact ha.1 x h' ⟨_, h.mem, hx⟩
    · exact i2 x hx h'
theorem Era.split {L L' : List Own} {o : Own} (h : Era L o L') {x : Nat} (hx : K.keys L x) : o.key x ∨ K.keys L' x := by
  induction h with
  | head => exact (keys_cons _ _ _).1 hx
  | tail _ ih =>
    rcases (keys_cons _ _ _).1 hx with h' | h'
    · exact .inr ((keys_cons _ _ _).2 (.inl h'))
    · exact (ih h').imp id fun h => (keys_cons _ _ _).2 (.inr h)

theorem Upd.owns {w w' : World} {L L' : List Own} {o o' : Own} (h : Upd L o o' L') (hL : Owns w L) (hk : Keep o.key w w') (ho : o'.holds w') (hn : ∀ x, o'.key x → o.key x ∨ w.heap.size ≤ x) : Owns w' L' := by
  induction h with
  | @head o o' L =>
    refine ⟨fun p hp => ?_, ⟨fun x hx hkx => ?_, hL.apart.2⟩⟩
    · cases hp with
      | head => exact ho
      | tail _ hp =>
        refine Own.same (hL.all p (.tail _ hp)) fun x hx => hk.block x (Own.key_lt (hL.all p (.tail _ hp)) hx) fun hox => hL.apart.1 x hox ⟨p, hp, hx⟩
    · rcases hn x hx with h | h
      · exact hL.apart.1 x h hkx
      · obtain ⟨p, hp, hpx⟩ := hkx
        have := Own.key_lt (hL.all p (.tail _ hp)) hpx
        omega
  | @tail o o' p L L' hu ih =>
    have hL2 : Owns w L := ⟨fun q hq => hL.all q (.tail _ hq), hL.apart.2⟩
    have i := ih hL2 hk ho hn
    refine ⟨fun q hq => ?_, ⟨fun x hx hkx => ?_, i.apart⟩⟩
    · cases hq with
      | head => exact Own.same (hL.all p (.head _)) fun x hx => hk.block x (Own.key_lt (hL.all p (.head _)) hx) fun hox => hL.apart.1 x hx ⟨o, hu.mem, hox⟩
      | tail _ hq => exact i.all q hq
    · rcases hu.keys hkx with h | h
      · rcases hn x h with h | h
        · exact hL.apart.1 x hx ⟨o, hu.mem, h⟩
        · have := Own.key_lt (hL.all p (.head _)) hx
          omega
      · exact hL.apart.1 x hx h

section
variable {G : Ctx} {n : Nat} {P : Program} {ops : Array Oper} {Q : Post} {rest : List Oper} {m : Regs} {L L' : List Own} {F : List Fact} {a : Act} {w w' : World}
variable {d : Nat} {ty : TypeId} {pos : String} {af : Array Edge} {g : Option (Nat × Bool)}

/-- One own thing has changed, and what is new besides. -/
theorem St.upd {o o' : Own} (s : St G n m L F a w) (hu : Upd L o o' L') (hk : Keep o.key w w') (ho : o'.holds w') (hn : ∀ x, o'.key x → o.key x ∨ w.heap.size ≤ x) : St G n m L' F a w' := by
  have hok : ∀ x, o.key x → keys L x := fun x hx => ⟨o, hu.mem, hx⟩
  refine ⟨s.env, s.keep.trans hk fun x hx hox => (s.mine x (hok x hox)).resolve_right (by omega), hu.owns s.own hk ho hn, fun x hx => ?_, s.x, fun φ hφ => ?_⟩
  · rcases hu.keys hx with h | h
    · rcases hn x h with h | h
      · exact s.mine x (hok x h)
      · exact .inr (Nat.le_trans s.keep.size h)
    · exact s.mine x h
  · refine φ.stable (s.facts φ hφ) ⟨hk.size, fun x hx hn' => hk.block x hx fun hox => hn' (.inr (hok x hox)), fun x hx hm => ?_⟩
    rcases hm with hm | hm
    · exact .inl hm
    · rcases hu.keys hm with h | h
      · rcases hn x h with h | h
        · exact .inr (hok x h)
        · omega
      · exact .inr h

/-- Something new is owned. -/
theorem St.add {o : Own} (s : St G n m L F a w) (hk : Keep (fun _ => False) w w') (ho : o.holds w') (hn : ∀ x, o.key x → w.heap.size ≤ x) : St G n m (o :: L) F a w' := by
  refine ⟨s.env, s.keep.trans hk fun _ _ h => h.elim, ⟨fun p hp => ?_, ⟨fun x hx hkx => ?_, s.own.apart⟩⟩, fun x hx => ?_, s.x, fun φ hφ => ?_⟩
  · cases hp with
    | head => exact ho
    | tail _ hp => exact Own.same (s.own.all p hp) fun x hx => hk.block x (Own.key_lt (s.own.all p hp) hx) id
  · have := s.own.lt hkx
    have := hn x hx
    omega
  · rcases (keys_cons _ _ _).1 hx with h | h
    · exact .inr (Nat.le_trans s.keep.size (hn x h))
    · exact s.mine x h
  · refine φ.stable (s.facts φ hφ) ⟨hk.size, fun x hx _ => hk.block x hx id, fun x hx hm => ?_⟩
    rcases hm with hm | hm
    · exact .inl hm
    · rcases (keys_cons _ _ _).1 hm with h | h
      · have := hn x h; omega
      · exact .inr h

/-- Nothing that was there has turned. -/
theorem St.quiet (s : St G n m L F a w) (hk : Keep (fun _ => False) w w') : St G n m L F a w' :=
  ⟨s.env, s.keep.trans hk fun _ _ h => h.elim, s.own.same fun x hx => hk.block x (s.own.lt hx) id, s.mine, s.x, fun φ hφ =>
    φ.stable (s.facts φ hφ) ⟨hk.size, fun x hx _ => hk.block x hx id, fun x _ hm => hm⟩⟩

/-- Something is owned no longer. -/
theorem St.era {o : Own} (s : St G n m L F a w) (he : Era L o L') : St G n m L' F a w :=
  ⟨s.env, s.keep, ⟨fun p hp => s.own.all p (he.sub hp), (he.apart s.own.apart).1⟩, fun x hx => s.mine x (he.keys hx), s.x, fun φ hφ =>
    φ.stable (s.facts φ hφ) ⟨Nat.le_refl _, fun _ _ _ => rfl, fun x _ hm => hm.imp id he.keys⟩⟩

theorem St.fact {φ : Fact} (s : St G n m L F a w) (h : φ.holds w (fun x => G.X x ∨ keys L x)) : St G n m L (φ :: F) a w :=
  ⟨s.env, s.keep, s.own, s.mine, s.x, fun ψ hψ => by
    cases hψ with
    | head => exact h
    | tail _ h' => exact s.facts ψ h'⟩

theorem l_drop {o : Own} (he : Era L o L') (h : RunL G n P ops Q rest m L' F) : RunL G n P ops Q rest m L F := fun a w s => h a w (s.era he)
theorem c_drop {c : Code} {o : Own} (he : Era L o L') (h : RunC G n P c Q m L' F) : RunC G n P c Q m L F := fun a w s => h a w (s.era he)
theorem ends_drop {e : Exit} {o : Own} (he : Era L o L') (h : Ends G n Q e m L' F) : Ends G n Q e m L F := fun a w s => h a w (s.era he)

/-! ### boxes -/
theorem keep_alloc (w : World) (o : Obj) : Keep (fun _ => False) w (w.alloc o) := ⟨rfl, rfl, rfl, by simp, fun x hx _ => Below.heap_alloc w o x hx⟩

theorem run_new {o : Op} {elem : TypeId} {cs : Array Value} (hx : ∀ a w, St G n m L F a w → (execOp a.eval ⟨some d, o, ty, pos, af, g⟩).run P w = .ok (.value (.pointer (some ⟨w.heap.size, 0, none⟩))) (w.alloc (.cells cs elem)))
    (hw : wantG ops m g = some true) (hd : Nat.blt d n = true)
    (h : ∀ b, RunL G n P ops Q rest ((d, .pointer (some ⟨b, 0, none⟩)) :: m) (.box b cs.toList elem :: L) F) : RunL G n P ops Q (⟨some d, o, ty, pos, af, g⟩ :: rest) m L F :=
  l_step hw fun a w s => ⟨_, _, hx a w s, h w.heap.size _ _ ((s.add (o := .box w.heap.size cs.toList elem) (keep_alloc w _) (by simpa [Own.holds] using Go.heap_alloc_new w (.cells cs elem)) (fun x hx => by
    have hx' : x = w.heap.size := hx
    omega)).put hd _)⟩

theorem l_alloc {t : TypeId} {z : Value} {size bytes : Nat} [i : Inf P t z size bytes] {cs : List Value} (hw : wantG ops m g = some true) (hd : Nat.blt d n = true) (hz : Cells z cs)
    (h : ∀ b, RunL G n P ops Q rest ((d, .pointer (some ⟨b, 0, none⟩)) :: m) (.box b cs t :: L) F) : RunL G n P ops Q (⟨some d, .alloc t, ty, pos, af, g⟩ :: rest) m L F := by
  refine run_new (cs := cs.toArray) (elem := t) (fun a w s => ?_) hw hd h
  have hc : z.cells = cs.toArray := by rw [← hz.eq]
  simp only [execOp, Instr.alloc, Sem.run_bind, run_zero i, Result.andThen_ok, newVar, newRow, newObj, Sem.run_pure, hc]
  rfl
theorem l_box {t : TypeId} {x : Operand} {v : Value} {cs : List Value} (hw : wantG ops m g = some true) (hx : ev m x = some v) (hd : Nat.blt d n = true) (hz : Cells v cs)
    (h : ∀ b, RunL G n P ops Q rest ((d, .pointer (some ⟨b, 0, none⟩)) :: m) (.box b cs t :: L) F) : RunL G n P ops Q (⟨some d, .box t x, ty, pos, af, g⟩ :: rest) m L F := by
  refine run_new (cs := cs.toArray) (elem := t) (fun a w s => ?_) hw hd h
  have hc : v.cells = cs.toArray := by rw [← hz.eq]
  simp only [execOp, s.env.eval hx, Instr.box, Sem.run_bind, newVar, newRow, newObj, Sem.run_pure, hc]
  rfl

theorem add_at (b o k : Nat) : (⟨b, o, none⟩ : Addr).add k = ⟨b, o + k, none⟩ := by unfold Addr.add; split <;> simp_all

theorem cells_at {b o k : Nat} {c cs : List Value} {t : TypeId} {fr : Nat × Nat} (hb : w.heap[b]? = some (.cells c.toArray t fr)) (ht : cs = (c.drop o).take k ∧ o + k ≤ c.length) :
    ∀ j v, cs[j]? = some v → w.cell? ((⟨b, o, none⟩ : Addr).add j) = some v := by
  intro j v hj
  rw [add_at, cell_of_row w b (o + j) _ t fr hb]
  rw [ht.1] at hj
  have hjk : j < k := by
    have := (List.getElem?_eq_some_iff.1 hj).1
    simp at this; omega
  rw [List.getElem?_take, if_pos hjk, List.getElem?_drop] at hj
  simpa using hj

theorem run_load_box {t : TypeId} {D : TypeDesc} [u : Und P t D] {b o : Nat} {c : List Value} {T : TypeId} {v : Value} (hD : aggD D = false) (hb : w.heap[b]? = some (.cells c.toArray T (0, 0))) (hv : c[o]? = some v) :
    (loadVar t ⟨b, o, none⟩).run P w = .ok v w := by
  have hc : w.cell? ⟨b, o, none⟩ = some v := by rw [cell_of_row w b o _ T _ hb]; simpa using hv
  simp [loadVar, run_isAgg u, hD, load, Sem.run, hc]
theorem run_load_agg {t : TypeId} {D : TypeDesc} [u : Und P t D] {z : Value} {size bytes : Nat} [i : Inf P t z size bytes] {b o : Nat} {c cs : List Value} {T : TypeId} {fr : Nat × Nat} (hD : aggD D = true) (hb : w.heap[b]? = some (.cells c.toArray T fr)) (hv : TakeAt c o size cs) :
    (loadVar t ⟨b, o, none⟩).run P w = .ok (.agg cs.toArray) w := by
  have e := hv.eq
  have hl : cs.length = size := by rw [e.1]; simp; omega
  have hc := run_loadCells_list (P := P) w ⟨b, o, none⟩ cs (cells_at hb e)
  rw [hl] at hc
  simp [loadVar, run_isAgg u, hD, run_sizeOf i, hc]

/-- A thing of one's own, told as a fact. -/
def fOwn (o : Own) : Fact := ⟨fun w M => o.holds w ∧ ∀ x, o.key x → x < w.heap.size ∧ ¬ M x, fun {w M w' M'} h hl => by
  obtain ⟨h1, h2⟩ := h
  refine ⟨Own.same h1 fun x hx => hl.block x (h2 x hx).1 (h2 x hx).2, fun x hx => ⟨Nat.lt_of_lt_of_le (h2 x hx).1 hl.size, fun hm => (h2 x hx).2 (hl.mine x (h2 x hx).1 hm)⟩⟩⟩
/-- It may be read: one's own, or told. -/
inductive Has (L : List Own) (F : List Fact) (o : Own) : Prop
  | own : o ∈ L → Has L F o
  | fact : fOwn o ∈ F → Has L F o
theorem Has.holds {G : Ctx} {n : Nat} {m : Regs} {L : List Own} {F : List Fact} {a : Act} {w : World} {o : Own} (h : Has L F o) (s : St G n m L F a w) : o.holds w := by
  cases h with
  | own h => exact s.own.all _ h
  | fact h => exact (s.facts _ h).1

theorem l_load {t : TypeId} {D : TypeDesc} [u : Und P t D] {x : Operand} {b o : Nat} {c : List Value} {T : TypeId} {v : Value} (hw : wantG ops m g = some true) (hx : ev m x = some (.pointer (some ⟨b, o, none⟩))) (hB : Has L F (.box b c T))
    (hD : aggD D = false) (hv : c[o]? = some v) (hd : Nat.blt d n = true) (h : RunL G n P ops Q rest ((d, v) :: m) L F) : RunL G n P ops Q (⟨some d, .load t x, ty, pos, af, g⟩ :: rest) m L F :=
  l_val v hw hd (fun a w s => by simp [execOp, s.env.eval hx, Instr.loadAt, Instr.sureAddr, run_load_box (P := P) (t := t) hD (hB.holds s) hv]) h
theorem l_loadAgg {t : TypeId} {D : TypeDesc} [u : Und P t D] {z : Value} {size bytes : Nat} [i : Inf P t z size bytes] {x : Operand} {b o : Nat} {c cs : List Value} {T : TypeId} (hw : wantG ops m g = some true) (hx : ev m x = some (.pointer (some ⟨b, o, none⟩))) (hB : Has L F (.box b c T))
    (hD : aggD D = true) (hv : TakeAt c o size cs) (hd : Nat.blt d n = true) (h : RunL G n P ops Q rest ((d, .agg cs.toArray) :: m) L F) : RunL G n P ops Q (⟨some d, .load t x, ty, pos, af, g⟩ :: rest) m L F :=
  l_val _ hw hd (fun a w s => by simp [execOp, s.env.eval hx, Instr.loadAt, Instr.sureAddr, run_load_agg (P := P) (t := t) hD (hB.holds s) hv]) h

theorem keep_setRow {b : Nat} {c : Array Value} {t : TypeId} {fr : Nat × Nat} (cs : Array Value) (_hb : w.heap[b]? = some (.cells c t fr)) : Keep (fun x => x = b) w (w.setRow b cs) :=
  ⟨rfl, rfl, rfl, by simp, fun x _ hn => setRow_other w b x cs hn⟩

/-- An operation without a value. -/
theorem l_skip {op : Op} {dst : Option Tmp} (hdst : dst = none) (hw : wantG ops m g = some true)
    (hrun : ∀ a w, St G n m L F a w → ∃ w', (execOp a.eval ⟨dst, op, ty, pos, af, g⟩).run P w = .ok .skip w' ∧ wpList P ops Q rest a w') :
    RunL G n P ops Q (⟨dst, op, ty, pos, af, g⟩ :: rest) m L F := by
  subst hdst
  intro a w s
  have hwa := wantG_eq (o := ⟨none, op, ty, pos, af, g⟩) s.env rfl hw
  refine wpList_step fun K hK => ?_
  rw [if_pos hwa]
  obtain ⟨w', hr, hn⟩ := hrun a w s
  unfold Oper.wp
  rw [hr, Oper.upon_skip]
  exact hK _ _ hn

theorem run_store_box {t : TypeId} {z : Value} {size bytes : Nat} [i : Inf P t z size bytes] {b o : Nat} {c c' vs : List Value} {T : TypeId} {v : Value} (hb : w.heap[b]? = some (.cells c.toArray T (0, 0))) (hc : Cells v vs) (h1 : ∀ u ∈ vs, u.oneCell' = true) (hs : vs.length = size) (hp : PutAt c o vs c') :
    (storeVar t ⟨b, o, none⟩ v).run P w = .ok () (w.setRow b c'.toArray) := by
  have e := hp.eq
  have hst := run_storeCells_at P b o T vs 0 c.toArray w hb (by simpa using e.2) h1
  have he : v.cells.size = size := by rw [hc.size, hs]
  simp only [Nat.add_zero] at hst
  rw [← e.1] at hst
  simp [storeVar, run_sizeOf i, he, hc.eq, hst]

theorem l_store {t : TypeId} {z : Value} {size bytes : Nat} [i : Inf P t z size bytes] {x y : Operand} {b o : Nat} {c c' vs : List Value} {T : TypeId} {v : Value} (hw : wantG ops m g = some true) (hx : ev m x = some (.pointer (some ⟨b, o, none⟩))) (hy : ev m y = some v) (hu : Upd L (.box b c T) (.box b c' T) L')
    (hc : Cells v vs) (h1 : ∀ u ∈ vs, u.oneCell' = true) (hs : vs.length = size) (hp : PutAt c o vs c') (h : RunL G n P ops Q rest m L' F) : RunL G n P ops Q (⟨none, .store t x y, ty, pos, af, g⟩ :: rest) m L F :=
  l_skip rfl hw fun a w s => by
    have hb := s.own.all _ hu.mem
    refine ⟨_, ?_, h a _ (s.upd hu (keep_setRow c'.toArray hb) (setRow_heap w b c.toArray c'.toArray T (0, 0) hb) (fun x hx => .inl hx))⟩
    simp [execOp, s.env.eval hx, s.env.eval hy, Instr.storeAt, Instr.sureAddr, run_store_box (P := P) (t := t) hb hc h1 hs hp]

theorem l_fieldAddr {t : TypeId} {fs : Array Field} [u : Und P t (.struct fs)] {x : Operand} {b o j o' : Nat} {fn : String} {ft : TypeId} {fo : Nat} {fe : Bool} {fg fp : String} {fb : Nat} {z : Value} {size bytes : Nat} (hw : wantG ops m g = some true) (hx : ev m x = some (.pointer (some ⟨b, o, none⟩)))
    (hf : fs[j]? = some ⟨fn, ft, fo, fe, fg, fp, fb⟩) (i : Inf P ft z size bytes) (hz : Nat.beq size 0 = false) (ho : PlusN o fo o') (hd : Nat.blt d n = true) (h : RunL G n P ops Q rest ((d, .pointer (some ⟨b, o', none⟩)) :: m) L F) :
    RunL G n P ops Q (⟨some d, .fieldAddr t x j, ty, pos, af, g⟩ :: rest) m L F :=
  l_val _ hw hd (fun a w s => by
    have h0 : size ≠ 0 := Nat.ne_of_beq_eq_false hz
    have := ho.eq
    subst this
    simp [execOp, s.env.eval hx, Instr.fieldAt, Instr.sureAddr, run_underlying u.out, hf, fieldPlace, run_sizeOf i, h0, add_at]) h
end
end Go.Proofs.YtbllgmcpebifhaaDoor.K
