/- The engine, part e: append, make, slices of slices, returns. -/
import Derived.Test.YtbllgmcpebifhaaDoorKd
import Derived.Maps.AppendAt
namespace Go.Proofs.YtbllgmcpebifhaaDoor.K
open Go Go.RowKit
set_option linter.all false

theorem keep_grown {w w' : World} {r : Option Nat} (h : w.grownBy w' r) : Keep (fun x => r = some x) w w' :=
  ⟨h.os, h.tape, h.output, h.size, fun x hx hn => h.block x hx fun e => hn e.symm⟩
theorem keep_none {w w' : World} (h : w.grownBy w' none) : Keep (fun _ => False) w w' :=
  ⟨h.os, h.tape, h.output, h.size, fun x hx _ => h.block x hx (by simp)⟩

/-- Cells tell a list. -/
def fCells {α : Type} (s : Nat) (R : Rep α) (xs : List Value) (l : List α) : Fact :=
  ⟨fun w M => xs.length = l.length * s ∧ ∀ i x, l[i]? = some x → R.holds x ((xs.drop (i * s)).take s) w M, fun h hl => ⟨h.1, fun i x hx => R.stable (h.2 i x hx) hl⟩⟩

section
variable {G : Ctx} {n : Nat} {P : Program} {ops : Array Oper} {Q : Post} {rest : List Oper} {m : Regs} {L L' L'' : List Own} {F : List Fact} {a : Act} {w w' : World}
variable {d : Nat} {ty : TypeId} {pos : String} {af : Array Edge} {g : Option (Nat × Bool)} {α : Type} {s : Nat} {R : Rep α} {v : Value} {l : List α} {LF : Value → List Own}

/-- Where an append's source lies. -/
def Src (s : Nat) (w : World) (u : Value) (k : Nat) (ys : List Value) : Prop :=
  (u = .slice none 0 0 ∧ k = 0 ∧ ys = []) ∨ ∃ ad c, u = .slice (some ad) k c ∧ ys.length = k * s ∧ ∀ j y, ys[j]? = some y → w.cell? (ad.add j) = some y

theorem run_append {t e : TypeId} {z : Value} {by' : Nat} [u : Und P t (.slice e)] [f : Inf P e z s by'] (hs : Nat.beq z.cells.size s = true) (h0 : Nat.beq s 0 = false) {N k : Nat} {xs ys : List Value} {vs : Value} (hr : w.ownsRow 0 e s v N xs) (hsrc : Src s w vs k ys) (h1 : ∀ y ∈ ys, y.oneCell' = true)
    (h63 : N + k ≤ maxLen) (hb : (N + k) * by' ≤ 140737488355328) (ty : TypeId) :
    ∃ v' w', (Builtin.append_ #[t, t] ty #[v, vs]).run P w = .ok v' w' ∧ w'.ownsRow 0 e s v' (N + k) (xs ++ ys) ∧ Keep (fun x => v.ownBlock = some x) w w' ∧ (∀ x, v'.ownBlock = some x → v.ownBlock = some x ∨ w.heap.size ≤ x) := by
  obtain ⟨i, i1, i2, i3, i4⟩ := f.parts
  have hz := Nat.eq_of_beq_eq_true hs
  have hp : 0 < s := Nat.pos_of_ne_zero (Nat.ne_of_beq_eq_false h0)
  rcases hsrc with ⟨rfl, rfl, rfl⟩ | ⟨ad, c, rfl, hl, hc⟩
  · refine ⟨v, w, run_append_owned_none (P := P) w 0 t ty e i s u.out i1 v N xs hr, by simpa using hr, Keep.refl _ _, fun x hx => .inl hx⟩
  · obtain ⟨v', w', r1, r2, r3, _, r5⟩ := run_append_own_at (P := P) w 0 t ty e i z s by' u.out i1 i2 i3 i4 hz hp v N xs hr ad k c ys hl hc h1 h63 hb (Nat.zero_le _)
    refine ⟨v', w', r1, r2, keep_grown r3, fun x hx => ?_⟩
    rcases r5 with r5 | r5
    · exact .inl (r5 ▸ hx)
    · rw [r5] at hx; injection hx with hx; exact .inr (by omega)

theorem l_appendS {t e : TypeId} {z : Value} {by' : Nat} [u : Und P t (.slice e)] [f : Inf P e z s by'] {x y : Operand} {N k : Nat} {xs ys : List Value} {vs : Value} (hw : wantG ops m g = some true) (hx : ev m x = some v) (hy : ev m y = some vs) (hd : Nat.blt d n = true)
    (hs : Nat.beq z.cells.size s = true) (h0 : Nat.beq s 0 = false) (hu : ∀ v', Upd L (.row v e s N xs) (.row v' e s (N + k) (xs ++ ys)) (LF v')) (hsrc : ∀ a w, St G n m L F a w → Src s w vs k ys) (h1 : ∀ y ∈ ys, y.oneCell' = true)
    (h63 : N + k ≤ maxLen) (hb : (N + k) * by' ≤ 140737488355328)
    (h : ∀ v', RunL G n P ops Q rest ((d, v') :: m) (LF v') F) : RunL G n P ops Q (⟨some d, .call ⟨.builtin .append, #[x, y], #[t, t]⟩, ty, pos, af, g⟩ :: rest) m L F :=
  l_step hw fun a w st => by
    obtain ⟨v', w', r1, r2, r3, r4⟩ := run_append (P := P) (t := t) hs h0 (st.own.all _ (hu v).mem) (hsrc a w st) h1 h63 hb ty
    refine ⟨v', w', ?_, h v' _ _ ((st.upd (hu v') r3 r2 r4).put hd v')⟩
    simp [execOp, st.env.eval hx, st.env.eval hy, resolve, invoke, builtin, r1]

theorem src_row {E : TypeId} {k : Nat} {ys : List Value} {vs : Value} (hr : w.ownsRow 0 E s vs k ys) : Src s w vs k ys := by
  rcases hr.2 with ⟨h1, h2⟩ | ⟨b, cap, cur, h1, _⟩
  · exact .inl ⟨h1, h2, List.eq_nil_of_length_eq_zero (by rw [hr.1, h2]; simp)⟩
  · exact .inr ⟨⟨b, 0, none⟩, cap, h1, hr.1, World.ownsRow.cells hr (g := b) (by rw [h1]; rfl)⟩
/-- append of a row of one's own. -/
theorem l_appendRow {t e : TypeId} {z : Value} {by' : Nat} [u : Und P t (.slice e)] [f : Inf P e z s by'] {x y : Operand} {E : TypeId} {N k : Nat} {xs ys : List Value} {vs : Value} (hw : wantG ops m g = some true) (hx : ev m x = some v) (hy : ev m y = some vs) (hd : Nat.blt d n = true)
    (hs : Nat.beq z.cells.size s = true) (h0 : Nat.beq s 0 = false) (hS : Own.row vs E s k ys ∈ L) (hu : ∀ v', Upd L (.row v e s N xs) (.row v' e s (N + k) (xs ++ ys)) (LF v')) (h1 : ∀ y ∈ ys, y.oneCell' = true)
    (h63 : N + k ≤ maxLen) (hb : (N + k) * by' ≤ 140737488355328)
    (h : ∀ v', RunL G n P ops Q rest ((d, v') :: m) (LF v') F) : RunL G n P ops Q (⟨some d, .call ⟨.builtin .append, #[x, y], #[t, t]⟩, ty, pos, af, g⟩ :: rest) m L F :=
  l_appendS hw hx hy hd hs h0 hu (fun _ _ st => src_row (st.own.all _ hS)) h1 h63 hb h

theorem src_list {vs : Value} {M : Nat → Prop} (hF : ListAt s R vs l w M) : ∃ ys, Src s w vs l.length ys ∧ ys.length = l.length * s ∧ ∀ i x, l[i]? = some x → R.holds x ((ys.drop (i * s)).take s) w M := by
  rcases hF with ⟨⟨ad, h1⟩, rfl⟩ | ⟨b, o, cap, c, t, fr, h1, h2, h3, h4, h5, h6, h7⟩
  · cases ad with
    | none => exact ⟨[], .inl ⟨h1, rfl, rfl⟩, by simp, fun i x hx => by simp at hx⟩
    | some ad => exact ⟨[], .inr ⟨ad, 0, h1, by simp, fun j y hy => by simp at hy⟩, by simp, fun i x hx => by simp at hx⟩
  · have hmul : l.length * s ≤ cap * s := Nat.mul_le_mul_right _ h2
    refine ⟨(c.toList.drop o).take (l.length * s), .inr ⟨⟨b, o, none⟩, cap, h1, by simp; omega, ?_⟩, by simp; omega, ?_⟩
    · exact cells_at (c := c.toList) (t := t) (fr := fr) (by simpa using h4) ⟨rfl, by simp; omega⟩
    · intro i x hx
      have hi : i < l.length := (List.getElem?_eq_some_iff.1 hx).1
      have hle : i * s + s ≤ l.length * s := by rw [← Nat.succ_mul]; exact Nat.mul_le_mul_right _ hi
      have e : (((c.toList.drop o).take (l.length * s)).drop (i * s)).take s = (c.toList.drop (o + i * s)).take s := by
        rw [List.drop_take, List.drop_drop, List.take_take]
        congr 1
        omega
      rw [e]
      exact h7 i x hx
/-- append of a list of numbers that came in. -/
theorem l_appendInts {t e : TypeId} {z : Value} {by' : Nat} {ik : IntKind} {l : List Int} [u : Und P t (.slice e)] [f : Inf P e z 1 by'] {x y : Operand} {N : Nat} {xs : List Value} {vs : Value} (hw : wantG ops m g = some true) (hx : ev m x = some v) (hy : ev m y = some vs) (hd : Nat.blt d n = true)
    (hs : Nat.beq z.cells.size 1 = true) (hF : fList 1 (rInt ik) vs l ∈ F) (hu : ∀ v', Upd L (.row v e 1 N xs) (.row v' e 1 (N + l.length) (xs ++ l.map (Value.int ik))) (LF v'))
    (h63 : N + l.length ≤ maxLen) (hb : (N + l.length) * by' ≤ 140737488355328)
    (h : ∀ v', RunL G n P ops Q rest ((d, v') :: m) (LF v') F) : RunL G n P ops Q (⟨some d, .call ⟨.builtin .append, #[x, y], #[t, t]⟩, ty, pos, af, g⟩ :: rest) m L F :=
  l_appendS hw hx hy hd hs rfl hu (fun a w st => by
    obtain ⟨ys, h1, h2, h3⟩ := src_list (st.facts _ hF)
    have : ys = l.map (Value.int ik) := by
      apply List.ext_getElem?
      intro i
      by_cases hi : i < l.length
      · have := h3 i l[i] (List.getElem?_eq_getElem hi)
        have hR : (ys.drop (i * 1)).take 1 = [Value.int ik l[i]] := this
        rw [Nat.mul_one] at hR
        have h0 : ((ys.drop i).take 1)[0]? = some (Value.int ik l[i]) := by rw [hR]; rfl
        rw [List.getElem?_take, if_pos (by omega), List.getElem?_drop] at h0
        simpa [hi] using h0
      · rw [List.getElem?_eq_none (by rw [h2]; omega), List.getElem?_eq_none (by simp; omega)]
    exact this ▸ h1) (by intro y hy; obtain ⟨q, _, rfl⟩ := List.mem_map.1 hy; rfl) h63 hb h

/-- nil is a row of one's own. -/
theorem l_nilRow {e : TypeId} (s : Nat) (h : RunL G n P ops Q rest m (.row (.slice none 0 0) e s 0 [] :: L) F) : RunL G n P ops Q rest m L F :=
  fun a w st => h a w (st.add (Keep.refl _ _) (World.ownsRow_nil w 0 e s) fun x hx => by simp [Own.key, Value.ownBlock] at hx)

/-- make: length and capacity are one. -/
theorem l_make {t e : TypeId} {z : Value} {by' : Nat} [u : Und P t (.slice e)] [f : Inf P e z 1 by'] {x y : Operand} {kl kc : IntKind} {q q' : Int} (j : Nat) (hw : wantG ops m g = some true) (hx : ev m x = some (.int kl q)) (hy : ev m y = some (.int kc q')) (hd : Nat.blt d n = true)
    (hz : z.cells = #[z]) (hq : q = (j : Int)) (hq' : q' = (j : Int)) (h63 : j ≤ maxLen) (hb : by' * j ≤ 281474976710656)
    (h : ∀ v, RunL G n P ops Q rest ((d, v) :: m) (.row v e 1 j (List.replicate j z) :: L) F) : RunL G n P ops Q (⟨some d, .makeSlice t x y, ty, pos, af, g⟩ :: rest) m L F :=
  l_step hw fun a w st => by
    subst hq; subst hq'
    obtain ⟨i, i1, i2, i3, i4⟩ := f.parts
    obtain ⟨w', r1, r2, r3⟩ := run_make_full (P := P) w 0 t e i z 1 u.out i1 i2 i3 kl kc j (by rw [i4]; exact hb) h63 (Nat.zero_le _)
    rw [hz, Nat.mul_one, toList_madeCells_one] at r2
    refine ⟨.slice (some ⟨w.heap.size, 0, none⟩) j j, w', by simp [execOp, st.env.eval hx, st.env.eval hy, r1], h (.slice (some ⟨w.heap.size, 0, none⟩) j j) _ _ ((st.add (o := .row (.slice (some ⟨w.heap.size, 0, none⟩) j j) e 1 j (List.replicate j z)) (keep_none r3) r2 fun x hx => ?_).put hd _)⟩
    have : w.heap.size = x := by simpa [Own.key, Value.ownBlock] using hx
    omega

/-- A literal's row: its values are given one by one. -/
theorem l_lit {t e : TypeId} {z : Value} {by' : Nat} [u : Und P t (.slice e)] [f : Inf P e z s by'] {k : Nat} {parts : Array (Nat × Operand)} {pv : List (Nat × Value)} {cs : List Value} (hw : wantG ops m g = some true) (hd : Nat.blt d n = true)
    (hp : ∀ a, Env n m a → parts.toList.map (fun p => (p.1, a.eval p.2)) = pv) (hk : k ≤ 1000000)
    (hf : Instr.fill (fun i => some (i * s, s)) ((Array.range (k * s)).map ((if k * s = 0 then #[] else z.cells)[· % (if k * s = 0 then #[] else z.cells).size]!)) pv = some cs.toArray) (hl : cs.length = k * s) (h24 : k * s ≤ 16777216)
    (h : ∀ v, RunL G n P ops Q rest ((d, v) :: m) (.row v e s k cs :: L) F) : RunL G n P ops Q (⟨some d, .buildSlice t k parts, ty, pos, af, g⟩ :: rest) m L F :=
  l_step hw fun a w st => by
    have hr := World.ownsRow_lit (base := 0) (e := e) (size := s) w cs.toArray k (Nat.zero_le _) (by simp only [maxLen]; omega) (by simpa using hl)
    refine ⟨.slice (some ⟨w.heap.size, 0, none⟩) k k, w.alloc (.cells cs.toArray e), ?_, h (.slice (some ⟨w.heap.size, 0, none⟩) k k) _ _ ((st.add (o := .row (.slice (some ⟨w.heap.size, 0, none⟩) k k) e s k cs) (keep_alloc w _) (by simpa [Own.holds] using hr) fun x hx => ?_).put hd _)⟩
    · have hpv : (parts.map fun p => (p.1, a.eval p.2)).toList = pv := by rw [Array.toList_map]; exact hp a st.env
      have hpv' : parts.toList.map (fun p => (p.1, a.eval p.2)) = pv := hp a st.env
      by_cases h0 : k * s = 0
      · have hf' := hf
        simp only [h0, if_true] at hf'
        simp [execOp, Instr.buildSlice, run_underlying u.out, run_sizeOf f, h0, hpv', newRow, newObj, Sem.run]
        simp [h0] at hf
        simp [hf]
        rfl
      · have hgt : ¬ (16777216 < k * s) := by omega
        have hf' := hf
        simp only [h0, if_false] at hf'
        simp [execOp, Instr.buildSlice, run_underlying u.out, run_sizeOf f, run_zero f, h0, hgt, hpv', newRow, newObj, Sem.run]
        simp [h0] at hf
        simp [hf]
        rfl
    · have : w.heap.size = x := by simpa [Own.key, Value.ownBlock] using hx
      omega
end
end Go.Proofs.YtbllgmcpebifhaaDoor.K
