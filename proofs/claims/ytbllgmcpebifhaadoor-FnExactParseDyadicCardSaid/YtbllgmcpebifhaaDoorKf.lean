/- The engine, part f: slices of slices, freezing, structs, returns. -/
import Derived.Test.YtbllgmcpebifhaaDoorKe
namespace Go.Proofs.YtbllgmcpebifhaaDoor.K
open Go Go.RowKit
set_option linter.all false

def IsSl (v : Value) : Prop := ∃ a l c, v = .slice a l c
theorem IsSl.cells {v : Value} (h : IsSl v) : Cells v [v] := Cells.ofSlice h
theorem IsSl.one {v : Value} (h : IsSl v) : v.oneCell' = true := by obtain ⟨a, l, c, rfl⟩ := h; rfl

inductive EvO (m : Regs) : Option Operand → Option Nat → Prop
  | none : EvO m none none
  | some {x : Operand} {k : IntKind} {q : Int} {i : Nat} : ev m x = some (.int k q) → q = (i : Int) → EvO m (some x) (some i)

inductive Fill (pl : Array (Nat × Nat)) : List Value → List (Nat × Operand) → Regs → List Value → Prop
  | nil {c : List Value} {m : Regs} : Fill pl c [] m c
  | cons {c c1 c2 vs : List Value} {i off : Nat} {x : Operand} {v : Value} {r : List (Nat × Operand)} {m : Regs} : ev m x = some v → Cells v vs → pl[i]? = some (off, vs.length) → PutAt c off vs c1 → Fill pl c1 r m c2 → Fill pl c ((i, x) :: r) m c2

inductive Ones : List Value → Prop
  | nil : Ones []
  | cons {v : Value} {vs : List Value} : v.oneCell' = true → Ones vs → Ones (v :: vs)
theorem Ones.all {vs : List Value} (h : Ones vs) : ∀ u ∈ vs, u.oneCell' = true := by
  induction h with
  | nil => intro u hu; cases hu
  | cons h1 _ ih => intro u hu; cases hu with
    | head => exact h1
    | tail _ hu => exact ih u hu

theorem fill_put : ∀ (vs : List Value) (c : Array Value) (off j0 : Nat), off + j0 + vs.length ≤ c.size →
    ((vs.toArray.zipIdx j0).foldl (fun cs (p : Value × Nat) => cs.setIfInBounds (off + p.2) p.1) c).toList = c.toList.take (off + j0) ++ vs ++ c.toList.drop (off + j0 + vs.length) := by
  intro vs
  induction vs with
  | nil =>
    intro c off j0 h
    have : ([] : List Value).toArray.zipIdx j0 = #[] := Array.toList_inj.1 (by simp)
    rw [this]
    simp
  | cons v r ih =>
    intro c off j0 h
    simp only [List.length_cons] at h
    have hcons : (v :: r).toArray.zipIdx j0 = #[(v, j0)] ++ r.toArray.zipIdx (j0 + 1) := by
      apply Array.toList_inj.1
      simp [List.zipIdx_cons]
    rw [hcons, Array.foldl_append]
    have h1 : (#[(v, j0)] : Array (Value × Nat)).foldl (fun cs (p : Value × Nat) => cs.setIfInBounds (off + p.2) p.1) c = c.setIfInBounds (off + j0) v := rfl
    rw [h1, ih (c.setIfInBounds (off + j0) v) off (j0 + 1) (by simp; omega)]
    have hlt : off + j0 < c.toList.length := by simp; omega
    have e1 : (c.toList.set (off + j0) v).take (off + (j0 + 1)) = c.toList.take (off + j0) ++ [v] := by
      rw [← Nat.add_assoc, List.take_succ_eq_append_getElem (by simpa using hlt)]
      simp only [List.take_set, List.getElem_set_self]
      rw [List.set_eq_of_length_le (by simp; omega)]
    have e2 : (c.toList.set (off + j0) v).drop (off + (j0 + 1) + r.length) = c.toList.drop (off + j0 + (r.length + 1)) := by
      rw [List.drop_set_of_lt (by omega)]
      congr 1
      omega
    rw [Array.toList_setIfInBounds, e1, e2]
    simp [List.append_assoc]

theorem Fill.run {pl : Array (Nat × Nat)} {c c' : List Value} {ps : List (Nat × Operand)} {m : Regs} (h : Fill pl c ps m c') {n : Nat} {a : Act} (he : Env n m a) :
    Instr.fill (pl[·]?) c.toArray (ps.map fun p => (p.1, a.eval p.2)) = some c'.toArray := by
  induction h with
  | nil => rfl
  | @cons c c1 c2 vs i off x v r m hx hc hp hput _ ih =>
    have e := hput.eq
    have hsz : v.cells.size = vs.length := hc.size
    have hv : v.cells = vs.toArray := by rw [← hc.eq]
    rw [List.map_cons]
    simp only [Instr.fill, hp, he.eval hx]
    have hle := e.2
    rw [if_neg (by simp [hsz]; omega)]
    have := fill_put vs c.toArray off 0 (by simpa using e.2)
    have key : (v.cells.zipIdx.foldl (fun cs (p : Value × Nat) => cs.setIfInBounds (off + p.2) p.1) c.toArray) = c1.toArray := by
      apply Array.toList_inj.1
      rw [hv, this]
      simpa using e.1.symm
    rw [key]
    exact ih he

/-- What a function hands back. -/
inductive Res (P : Program) (m : Regs) (L : List Own) : List ResultVar → List Value → Prop
  | nil : Res P m L [] []
  | tmp {t : Tmp} {v : Value} {r : List ResultVar} {vs : List Value} : look m t = some v → Res P m L r vs → Res P m L (.tmp t :: r) (v :: vs)
  | agg {t : Tmp} {b : Nat} {T : TypeId} {D : TypeDesc} {z : Value} {size bytes : Nat} {c cs : List Value} {T' : TypeId} {r : List ResultVar} {vs : List Value} (u : Und P T D) (i : Inf P T z size bytes) : look m t = some (.pointer (some ⟨b, 0, none⟩)) → Own.box b c T' ∈ L → aggD D = true → TakeAt c 0 size cs →
      Res P m L r vs → Res P m L (.cell t T :: r) (.agg cs.toArray :: vs)
  | one {t : Tmp} {b : Nat} {T : TypeId} {D : TypeDesc} {c : List Value} {v : Value} {T' : TypeId} {r : List ResultVar} {vs : List Value} (u : Und P T D) : look m t = some (.pointer (some ⟨b, 0, none⟩)) → Own.box b c T' ∈ L → aggD D = false → c[0]? = some v →
      Res P m L r vs → Res P m L (.cell t T :: r) (v :: vs)

def retVal : List Value → Value
  | [v] => v
  | vs => .tuple vs.toArray

def getRes (tmps : Array Value) : ResultVar → Sem Value
  | .tmp t => pure (tmps.getD t undef)
  | .cell x t => do loadVar t (← asAddr (tmps.getD x undef))
theorem results_eq (fn : Func) (tmps : Array Value) : results fn tmps = (do
    let vs ← fn.results.mapM (getRes tmps)
    pure (if h : vs.size = 1 then vs[0] else .tuple vs)) := rfl

theorem Res.run {P : Program} {m : Regs} {L : List Own} {rs : List ResultVar} {vs : List Value} (h : Res P m L rs vs) {n : Nat} {a : Act} {w : World} (he : Env n m a) (hL : Owns w L) :
    (rs.mapM (getRes a.tmps)).run P w = Result.ok vs w := by
  induction h with
  | nil => rfl
  | tmp h1 _ ih =>
    rw [List.mapM_cons]
    simp only [Sem.run_bind, getRes, Sem.run_pure, Result.andThen_ok, he.getD h1, ih]
  | @agg t b T D z size bytes c cs T' r vs u i h1 h2 h3 h4 _ ih =>
    rw [List.mapM_cons]
    have hb := hL.all _ h2
    have hg : (getRes a.tmps (.cell t T)).run P w = .ok (.agg cs.toArray) w := by
      simp only [getRes, Sem.run_bind, he.getD h1, asAddr, Sem.run_pure, Result.andThen_ok]
      exact run_load_agg (u := u) (i := i) h3 hb h4
    simp only [Sem.run_bind, hg, Result.andThen_ok, ih, Sem.run_pure]
  | @one t b T D c v T' r vs u h1 h2 h3 h4 _ ih =>
    rw [List.mapM_cons]
    have hb := hL.all _ h2
    have hg : (getRes a.tmps (.cell t T)).run P w = .ok v w := by
      simp only [getRes, Sem.run_bind, he.getD h1, asAddr, Sem.run_pure, Result.andThen_ok]
      exact run_load_box (u := u) h3 hb h4
    simp only [Sem.run_bind, hg, Result.andThen_ok, ih, Sem.run_pure]

section
variable {G : Ctx} {n : Nat} {P : Program} {ops : Array Oper} {Q : Post} {rest : List Oper} {m : Regs} {L L' L'' : List Own} {F : List Fact} {a : Act} {w w' : World}
variable {d : Nat} {ty : TypeId} {pos : String} {af : Array Edge} {g : Option (Nat × Bool)} {α : Type} {s : Nat} {R : Rep α} {v : Value} {l : List α} {LF : Value → List Own}

theorem e_res {fn : Func} {post : Value → List Own → List Fact → Prop} {rs : List ResultVar} {vs : List Value} (hr : fn.results = rs.toArray) (h : Res P m L rs vs) (Lo : List Own) (Fo : List Fact)
    (hL : ∀ o, o ∈ Lo → o ∈ L) (hap : ∀ w, Owns w L → apart Lo) (hF : ∀ φ, φ ∈ Fo → φ ∈ F) (hp : post (retVal vs) Lo Fo) : Ends G n (bodyPost P fn (Fin G post)) .ret m L F := by
  refine e_ret (retVal vs) Lo Fo (fun a w s => ?_) hL hap hF hp
  have := h.run s.env s.own
  rw [results_eq, hr]
  simp only [List.mapM_toArray, Sem.run_bind, Sem.run_map, this, Result.andThen_ok]
  match vs with
  | [] => rfl
  | [v] => rfl
  | _ :: _ :: _ => rfl
/-- Only a value is handed back. -/
theorem e_gives {fn : Func} {rs : List ResultVar} {vs : List Value} {v : Value} (hr : fn.results = rs.toArray) (h : Res P m L rs vs) (hv : retVal vs = v) : Ends G n (bodyPost P fn (Fin G (Gives v))) .ret m L F :=
  e_res hr h [] [] (fun _ h => by cases h) (fun _ _ => trivial) (fun _ h => by cases h) ⟨hv, rfl, rfl⟩

theorem l_isList (hF : fList s R v l ∈ F) (h : IsSl v → RunL G n P ops Q rest m L F) : RunL G n P ops Q rest m L F := fun a w st => by
  obtain ⟨ad, c, hv, _⟩ := ListAt.slice (st.facts _ hF)
  exact h ⟨ad, _, c, hv⟩ a w st
theorem c_isList {c : Code} (hF : fList s R v l ∈ F) (h : IsSl v → RunC G n P c Q m L F) : RunC G n P c Q m L F := fun a w st => by
  obtain ⟨ad, c, hv, _⟩ := ListAt.slice (st.facts _ hF)
  exact h ⟨ad, _, c, hv⟩ a w st
theorem c_lenList {c : Code} (hF : fList s R v l ∈ F) (h : l.length ≤ 9223372036854775807 → RunC G n P c Q m L F) : RunC G n P c Q m L F := fun a w st => by
  obtain ⟨ad, c, hv, hm⟩ := ListAt.slice (st.facts _ hF)
  exact h (by simpa [maxLen] using hm) a w st
theorem isSl_row {E : TypeId} {N : Nat} {xs : List Value} (hr : w.ownsRow 0 E s v N xs) : IsSl v := by
  rcases hr.2 with ⟨h, _⟩ | ⟨b, cap, cur, h, _⟩
  · exact ⟨_, _, _, h⟩
  · exact ⟨_, _, _, h⟩
theorem l_isRow {E : TypeId} {N : Nat} {xs : List Value} (hB : Has L F (.row v E s N xs)) (h : IsSl v → xs.length = N * s → RunL G n P ops Q rest m L F) : RunL G n P ops Q rest m L F := fun a w st =>
  h (isSl_row (hB.holds st)) (hB.holds st).1 a w st
theorem c_isRow {c : Code} {E : TypeId} {N : Nat} {xs : List Value} (hB : Has L F (.row v E s N xs)) (h : IsSl v → xs.length = N * s → RunC G n P c Q m L F) : RunC G n P c Q m L F := fun a w st =>
  h (isSl_row (hB.holds st)) (hB.holds st).1 a w st

/-- A row that is written no more is a list. -/
theorem St.freeze {E : TypeId} {N : Nat} {xs : List Value} (st : St G n m L F a w) (he : Era L (.row v E s N xs) L') (hl : N = l.length)
    (hR : ∀ w M, (∀ φ, φ ∈ F → φ.holds w M) → ∀ i x, l[i]? = some x → R.holds x ((xs.drop (i * s)).take s) w M) : St G n m L' (fList s R v l :: F) a w := by
  have hr : w.ownsRow 0 E s v N xs := st.own.all _ he.mem
  have st' := st.era he
  refine st'.fact ?_
  rcases hr.2 with ⟨hv, h0⟩ | ⟨b, cap, cur, hv, _, hh, h1, h2, h3, h4⟩
  · have : l = [] := List.eq_nil_of_length_eq_zero (by omega)
    exact .inl ⟨⟨none, hv⟩, this⟩
  · refine .inr ⟨b, 0, cap, cur, E, (0, 0), by rw [hv, hl], by omega, h2, hh, ?_, by omega, fun i x hx => ?_⟩
    · have hk : Own.key (.row v E s N xs) b := by simp [Own.key, hv, Value.ownBlock]
      rintro (hx | hx)
      · exact st.xkeys hx ⟨_, he.mem, hk⟩
      · exact (he.apart st.own.apart).2 b hk hx
    · have := hR w _ st'.facts i x hx
      have hi : i < l.length := (List.getElem?_eq_some_iff.1 hx).1
      have hle : i * s + s ≤ N * s := by rw [← Nat.succ_mul]; exact Nat.mul_le_mul_right _ (by omega)
      have e : (xs.drop (i * s)).take s = (cur.toList.drop (0 + i * s)).take s := by
        rw [← h4, List.drop_take, List.take_take, Nat.zero_add]
        congr 1
        omega
      rw [← e]
      exact this
theorem freeze_ints {ik : IntKind} {l : List Int} (F : List Fact) : ∀ w M, (∀ φ, φ ∈ F → φ.holds w M) → ∀ i x, l[i]? = some x → (rInt ik).holds x (((l.map (Value.int ik)).drop (i * 1)).take 1) w M := by
  intro w M _ i x hx
  have hi := (List.getElem?_eq_some_iff.1 hx)
  show ((l.map (Value.int ik)).drop (i * 1)).take 1 = [Value.int ik x]
  rw [Nat.mul_one, List.drop_eq_getElem_cons (by simpa using hi.1)]
  simp [hi.2]
theorem l_freezeInts {E : TypeId} {N : Nat} {ik : IntKind} {l : List Int} {xs : List Value} (he : Era L (.row v E 1 N xs) L') (hx : xs = l.map (Value.int ik)) (h : RunL G n P ops Q rest m L' (fList 1 (rInt ik) v l :: F)) : RunL G n P ops Q rest m L F := fun a w st =>
  h a w (st.freeze he (by have := (st.own.all _ he.mem : w.ownsRow 0 E 1 v N xs).1; rw [hx] at this; simpa using this.symm) (by rw [hx]; exact freeze_ints F))
theorem c_freezeInts {c : Code} {E : TypeId} {N : Nat} {ik : IntKind} {l : List Int} {xs : List Value} (he : Era L (.row v E 1 N xs) L') (hx : xs = l.map (Value.int ik)) (h : RunC G n P c Q m L' (fList 1 (rInt ik) v l :: F)) : RunC G n P c Q m L F := fun a w st =>
  h a w (st.freeze he (by have := (st.own.all _ he.mem : w.ownsRow 0 E 1 v N xs).1; rw [hx] at this; simpa using this.symm) (by rw [hx]; exact freeze_ints F))
theorem ends_freezeInts {e : Exit} {E : TypeId} {N : Nat} {ik : IntKind} {l : List Int} {xs : List Value} (he : Era L (.row v E 1 N xs) L') (hx : xs = l.map (Value.int ik)) (h : Ends G n Q e m L' (fList 1 (rInt ik) v l :: F)) : Ends G n Q e m L F := fun a w st =>
  h a w (st.freeze he (by have := (st.own.all _ he.mem : w.ownsRow 0 E 1 v N xs).1; rw [hx] at this; simpa using this.symm) (by rw [hx]; exact freeze_ints F))

/-! ### slices -/
theorem run_bound {b : Option Operand} {i : Option Nat} (he : Env n m a) (h : EvO m b i) (y : Nat) (code : BoundsCode) (hi : i.getD y ≤ y) :
    (match b.map a.eval with | some v => Instr.sliceBound v y code | none => (pure y : Sem Nat)).run P w = .ok (i.getD y) w := by
  cases h with
  | none => rfl
  | @some x k q i hx hq =>
    subst hq
    have hi' : i ≤ y := hi
    simp [he.eval hx, Instr.sliceBound, asIntOf, hi']

theorem run_sliceAt {t e : TypeId} {z : Value} {by' : Nat} [u : Und P t (.slice e)] [f : Inf P e z s by'] {lo hi : Option Operand} {i j : Option Nat} {ad : Option Addr} {N c : Nat} (he : Env n m a) (hlo : EvO m lo i) (hhi : EvO m hi j) (hc : N ≤ c) (h1 : i.getD 0 ≤ j.getD N) (h2 : j.getD N ≤ c) :
    (Instr.sliceAt t (.slice ad N c) (lo.map a.eval) (hi.map a.eval) none).run P w = .ok (.slice (if c = i.getD 0 then ad else ad.map (fun (q : Addr) => q.add (i.getD 0 * s))) (j.getD N - i.getD 0) (c - i.getD 0)) w := by
  cases hlo with
  | none =>
    cases hhi with
    | none => simp [Instr.sliceAt, Instr.slice, Instr.sliceBounds, run_underlying u.out, run_sizeOf f]
    | @some y k q j hy hq =>
      subst hq
      have h2' : j ≤ c := h2
      simp [Instr.sliceAt, Instr.slice, Instr.sliceBounds, Instr.sliceBound, asIntOf, run_underlying u.out, run_sizeOf f, he.eval hy, h2']
  | @some x k q i hx hq =>
    subst hq
    cases hhi with
    | none =>
      have h1' : i ≤ N := h1
      simp [Instr.sliceAt, Instr.slice, Instr.sliceBounds, Instr.sliceBound, asIntOf, run_underlying u.out, run_sizeOf f, he.eval hx, h1']
    | @some y k q j hy hq =>
      subst hq
      have h1' : i ≤ j := h1
      have h2' : j ≤ c := h2
      simp [Instr.sliceAt, Instr.slice, Instr.sliceBounds, Instr.sliceBound, asIntOf, run_underlying u.out, run_sizeOf f, he.eval hx, he.eval hy, h1', h2']

theorem l_sliceList {t e : TypeId} {z : Value} {by' : Nat} [u : Und P t (.slice e)] [f : Inf P e z s by'] {x : Operand} {lo hi : Option Operand} {i j : Option Nat} (hw : wantG ops m g = some true) (hx : ev m x = some v) (hF : fList s R v l ∈ F) (hlo : EvO m lo i) (hhi : EvO m hi j) (hd : Nat.blt d n = true)
    (h1 : i.getD 0 ≤ j.getD l.length) (h2 : j.getD l.length ≤ l.length) (h : ∀ v', RunL G n P ops Q rest ((d, v') :: m) L (fList s R v' ((l.take (j.getD l.length)).drop (i.getD 0)) :: F)) :
    RunL G n P ops Q (⟨some d, .slice t x lo hi none, ty, pos, af, g⟩ :: rest) m L F :=
  l_step hw fun a w st => by
    have hf : ListAt s R v l w _ := st.facts _ hF
    rcases hf with ⟨⟨ad0, rfl⟩, rfl⟩ | ⟨b, o, cap, c, t', fr, q1, q2, q3, q4, q5, q6, q7⟩
    · have hj : j.getD 0 = 0 := by simpa using h2
      have hi0 : i.getD 0 = 0 := by simp [hj] at h1; simpa using h1
      have := run_sliceAt (P := P) (w := w) (t := t) (ad := ad0) (N := 0) (c := 0) st.env hlo hhi (Nat.le_refl _) (by omega) (by omega)
      have e : (Value.slice (if 0 = i.getD 0 then ad0 else Option.map (fun (q : Addr) => q.add (i.getD 0 * s)) ad0) (j.getD 0 - i.getD 0) (0 - i.getD 0)) = .slice ad0 0 0 := by simp [hi0, hj]
      rw [e] at this
      exact ⟨.slice ad0 0 0, w, by simp only [execOp, st.env.eval hx, Sem.run_bind, Option.map_none, this, Result.andThen_ok]; rfl, h (.slice ad0 0 0) _ _ ((st.fact (φ := fList s R (.slice ad0 0 0) _) (Or.inl ⟨⟨ad0, rfl⟩, by simp⟩ : ListAt s R (.slice ad0 0 0) _ w _)).put hd _)⟩
    · subst q1
      have := run_sliceAt (P := P) (w := w) (t := t) (ad := some ⟨b, o, none⟩) (N := l.length) (c := cap) st.env hlo hhi q2 h1 (Nat.le_trans h2 q2)
      refine ⟨_, w, by simp only [execOp, st.env.eval hx, Sem.run_bind, Option.map_none, this, Result.andThen_ok]; rfl, h _ _ _ ((st.fact ?_).put hd _)⟩
      have hlen : ((l.take (j.getD l.length)).drop (i.getD 0)).length = j.getD l.length - i.getD 0 := by simp; omega
      have helem : ∀ k x, ((l.take (j.getD l.length)).drop (i.getD 0))[k]? = some x → R.holds x ((c.toList.drop (o + i.getD 0 * s + k * s)).take s) w (fun y => G.X y ∨ keys L y) := by
        intro k x hk
        have hkl := (List.getElem?_eq_some_iff.1 hk).1
        rw [hlen] at hkl
        rw [List.getElem?_drop, List.getElem?_take, if_pos (by omega)] at hk
        have := q7 _ x hk
        rw [Nat.add_mul, ← Nat.add_assoc] at this
        exact this
      by_cases hcap : cap = i.getD 0
      · rw [if_pos hcap]
        have hz : ((l.take (j.getD l.length)).drop (i.getD 0)) = [] := List.eq_nil_of_length_eq_zero (by rw [hlen]; omega)
        refine .inr ⟨b, o, 0, c, t', fr, by rw [hlen, ← hcap]; simp, by rw [hz]; simp, Nat.zero_le _, q4, q5, by omega, fun k x hk => ?_⟩
        rw [hz] at hk; simp at hk
      · rw [if_neg hcap]
        refine .inr ⟨b, o + i.getD 0 * s, cap - i.getD 0, c, t', fr, by rw [hlen]; simp [add_at], by rw [hlen]; omega, by omega, q4, q5, ?_, helem⟩
        have : i.getD 0 * s + (cap - i.getD 0) * s = cap * s := by rw [← Nat.add_mul]; congr 1; omega
        omega

/-- The beginning of a row of one's own. -/
theorem l_sliceRow {t e : TypeId} {z : Value} {by' : Nat} [u : Und P t (.slice e)] [f : Inf P e z s by'] {x : Operand} {hi : Option Operand} {j N : Nat} {xs : List Value} (hw : wantG ops m g = some true) (hx : ev m x = some v) (hhi : EvO m hi (some j)) (hd : Nat.blt d n = true)
    (h2 : j ≤ N) (hu : ∀ v', Upd L (.row v e s N xs) (.row v' e s j (xs.take (j * s))) (LF v')) (h : ∀ v', RunL G n P ops Q rest ((d, v') :: m) (LF v') F) :
    RunL G n P ops Q (⟨some d, .slice t x none hi none, ty, pos, af, g⟩ :: rest) m L F :=
  l_step hw fun a w st => by
    have hr : w.ownsRow 0 e s v N xs := st.own.all _ (hu v).mem
    have hlen : (xs.take (j * s)).length = j * s := by
      rw [List.length_take, hr.1]
      exact Nat.min_eq_left (Nat.mul_le_mul_right _ h2)
    rcases hr.2 with ⟨hv, h0⟩ | ⟨b, cap, cur, hv, _, hh, q1, q2, q3, q4⟩
    · have hj : j = 0 := by omega
      have hv' := hv
      subst hj; subst h0
      have := run_sliceAt (P := P) (w := w) (t := t) (ad := none) (N := 0) (c := 0) st.env .none hhi (Nat.le_refl _) (by simp) (by simp)
      simp only [Option.map_none, Option.getD_none, Option.getD_some, if_true, Nat.sub_self] at this
      refine ⟨.slice none 0 0, w, by simp only [execOp, st.env.eval hx, hv', Sem.run_bind, Option.map_none, this, Result.andThen_ok]; rfl, h (.slice none 0 0) _ _ ?_⟩
      refine (st.upd (hu (.slice none 0 0)) (Keep.refl _ _) ⟨hlen, .inl ⟨rfl, rfl⟩⟩ fun x hx => by simp [Own.key, Value.ownBlock] at hx).put hd _
    · have hv' := hv
      have := run_sliceAt (P := P) (w := w) (t := t) (ad := some ⟨b, 0, none⟩) (N := N) (c := cap) st.env .none hhi q1 (by simp) (by simpa using Nat.le_trans h2 q1)
      have e : (Value.slice (if cap = (none : Option Nat).getD 0 then some ⟨b, 0, none⟩ else Option.map (fun (q : Addr) => q.add ((none : Option Nat).getD 0 * s)) (some ⟨b, 0, none⟩)) ((some j).getD N - (none : Option Nat).getD 0) (cap - (none : Option Nat).getD 0)) = .slice (some ⟨b, 0, none⟩) j cap := by
        simp [add_at]
      rw [e] at this
      simp only [Option.map_none] at this
      refine ⟨.slice (some ⟨b, 0, none⟩) j cap, w, by simp only [execOp, st.env.eval hx, hv', Sem.run_bind, Option.map_none, this, Result.andThen_ok]; rfl, h _ _ _ ((st.upd (hu _) (Keep.refl _ _) ⟨hlen, .inr ⟨b, cap, cur, rfl, Nat.zero_le _, hh, Nat.le_trans h2 q1, q2, q3, ?_⟩⟩ fun x hx => .inl ?_).put hd _)⟩
      · rw [← q4, List.take_take]
        congr 1
        exact (Nat.min_eq_left (Nat.mul_le_mul_right _ h2)).symm
      · simpa [Own.key, hv, Value.ownBlock] using hx

theorem l_sliceStr {t : TypeId} [u : Und P t .string] {x : Operand} {lo hi : Option Operand} {i j : Option Nat} {p : ByteArray} (hw : wantG ops m g = some true) (hx : ev m x = some (.string p)) (hlo : EvO m lo i) (hhi : EvO m hi j) (hd : Nat.blt d n = true)
    (h1 : i.getD 0 ≤ j.getD p.size) (h2 : j.getD p.size ≤ p.size) (h : RunL G n P ops Q rest ((d, .string (p.extract (i.getD 0) (j.getD p.size))) :: m) L F) :
    RunL G n P ops Q (⟨some d, .slice t x lo hi none, ty, pos, af, g⟩ :: rest) m L F :=
  l_val _ hw hd (fun a w st => by
    cases hlo with
    | none =>
      cases hhi with
      | none => simp [execOp, st.env.eval hx, Instr.sliceAt, Instr.slice, Instr.sliceBounds, run_underlying u.out]
      | @some y k q j hy hq =>
        subst hq
        have h2' : j ≤ p.size := h2
        simp [execOp, st.env.eval hx, Instr.sliceAt, Instr.slice, Instr.sliceBounds, Instr.sliceBound, asIntOf, run_underlying u.out, st.env.eval hy, h2']
    | @some y k q i hy hq =>
      subst hq
      cases hhi with
      | none =>
        have h1' : i ≤ p.size := h1
        simp [execOp, st.env.eval hx, Instr.sliceAt, Instr.slice, Instr.sliceBounds, Instr.sliceBound, asIntOf, run_underlying u.out, st.env.eval hy, h1']
      | @some y' k q j hy' hq =>
        subst hq
        have h1' : i ≤ j := h1
        have h2' : j ≤ p.size := h2
        simp [execOp, st.env.eval hx, Instr.sliceAt, Instr.slice, Instr.sliceBounds, Instr.sliceBound, asIntOf, run_underlying u.out, st.env.eval hy, st.env.eval hy', h1', h2']) h

/-! ### structs -/
theorem l_build {t : TypeId} {fs : Array Field} {z : Value} {size bytes : Nat} [u : Und P t (.struct fs)] [f : Inf P t z size bytes] {parts : List (Nat × Operand)} {c c' : List Value} {pl : Array (Nat × Nat)} (hw : wantG ops m g = some true) (hd : Nat.blt d n = true) (hz : Cells z c)
    (hpl : ∀ w, (fs.mapM fun f => do pure (f.offset, ← sizeOf f.type) : Sem (Array (Nat × Nat))).run P w = .ok pl w) (hf : Fill pl c parts m c') (h : RunL G n P ops Q rest ((d, .agg c'.toArray) :: m) L F) :
    RunL G n P ops Q (⟨some d, .build t parts.toArray, ty, pos, af, g⟩ :: rest) m L F :=
  l_val _ hw hd (fun a w st => by
    have h1 := hf.run st.env
    have h2 : z.cells = c.toArray := by rw [← hz.eq]
    have h3 : (parts.toArray.map fun p => (p.1, a.eval p.2)).toList = parts.map fun p => (p.1, a.eval p.2) := by simp
    have h4 := hpl w
    simp only [execOp, Instr.build, Sem.run_bind, run_zero f, Result.andThen_ok, run_underlying u.out, h4, h2, h3, h1, Sem.run_pure]) h
end
end Go.Proofs.YtbllgmcpebifhaaDoor.K
