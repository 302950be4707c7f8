/- The engine, part d: calls; lists that came in; rows of one's own. -/
import Derived.Test.YtbllgmcpebifhaaDoorKc
namespace Go.Proofs.YtbllgmcpebifhaaDoor.K
open Go Go.RowKit
set_option linter.all false

inductive Evs (m : Regs) : List Operand → List Value → Prop
  | nil : Evs m [] []
  | cons {x : Operand} {v : Value} {xs : List Operand} {vs : List Value} : ev m x = some v → Evs m xs vs → Evs m (x :: xs) (v :: vs)

/-- Some of what is owned is handed on: what, and what stays. -/
inductive Take : List Own → List Own → List Own → Prop
  | nil {L : List Own} : Take L [] L
  | cons {L L1 L2 Lc : List Own} {o : Own} : Era L o L1 → Take L1 Lc L2 → Take L (o :: Lc) L2

theorem Evs.map {m : Regs} {xs : List Operand} {vs : List Value} (h : Evs m xs vs) {n : Nat} {a : Act} (he : Env n m a) : xs.map a.eval = vs := by
  induction h with
  | nil => rfl
  | cons hx _ ih => rw [List.map_cons, he.eval hx, ih]

theorem Take.split {L Lc Lr : List Own} (h : Take L Lc Lr) : (∀ o, o ∈ Lc → o ∈ L) ∧ (∀ o, o ∈ Lr → o ∈ L) ∧ (∀ x, keys L x → keys Lc x ∨ keys Lr x) ∧
    (apart L → apart Lc ∧ apart Lr ∧ ∀ x, keys Lc x → ¬ keys Lr x) := by
  induction h with
  | nil => exact ⟨fun _ h => by (cases h), fun _ h => h, fun _ h => .inr h, fun h => ⟨trivial, h, fun x hx => (keys_nil x hx).elim⟩⟩
  | @cons L L1 L2 Lc o he ht ih =>
    obtain ⟨i1, i2, i3, i4⟩ := ih
    refine ⟨fun p hp => ?_, fun p hp => he.sub (i2 p hp), fun x hx => ?_, fun ha => ?_⟩
    · cases hp with
      | head => exact he.mem
      | tail _ hp => exact he.sub (i1 p hp)
    · rcases he.split hx with h | h
      · exact .inl ((keys_cons _ _ _).2 (.inl h))
      · rcases i3 x h with h | h
        · exact .inl ((keys_cons _ _ _).2 (.inr h))
        · exact .inr h
    · obtain ⟨a1, a2⟩ := he.apart ha
      obtain ⟨j1, j2, j3⟩ := i4 a1
      refine ⟨⟨fun x hx hk => ?_, j1⟩, j2, fun x hx hk => ?_⟩
      · obtain ⟨p, hp, hpx⟩ := hk
        exact a2 x hx ⟨p, i1 p hp, hpx⟩
      · rcases (keys_cons _ _ _).1 hx with h | h
        · obtain ⟨p, hp, hpx⟩ := hk
          exact a2 x h ⟨p, i2 p hp, hpx⟩
        · exact j3 x h hk

theorem run_call {P : Program} {f : FuncId} {ρ : Operand → Value} {x : Operand} {xs : List Operand} {vs first cap : List Value} {ts : Array TypeId} {dst : Option Tmp} {ty : TypeId} {pos : String} {af : Array Edge} {g : Option (Nat × Bool)}
    (hp : Plain P f) (hx : ρ x = .func (.func f) first.toArray cap.toArray) (hv : xs.map ρ = vs) (w : World) :
    (execOp ρ ⟨dst, .call ⟨.value x, xs.toArray, ts⟩, ty, pos, af, g⟩).run P w = .ok (.enter f (first ++ vs ++ cap).toArray) w := by
  obtain ⟨fn, c, h1, h2, h3⟩ := hp
  have hn : ¬ fn.name = "runtime.NumGoroutine" := by simpa using h3
  have hv' : Array.map ρ xs.toArray = vs.toArray := by rw [List.map_toArray, hv]
  simp [execOp, resolve, hx, Deferred.ofValue, invoke, callFunc, program, Sem.run, h1, hn, h2, hv']

section
variable {G : Ctx} {n : Nat} {P : Program} {ops : Array Oper} {Q : Post} {rest : List Oper} {m : Regs} {L L' : List Own} {F : List Fact} {a : Act} {w w' : World}
variable {d : Nat} {ty : TypeId} {pos : String} {af : Array Edge} {g : Option (Nat × Bool)}

/-- A call. -/
theorem l_callF {f : FuncId} {x : Operand} {xs : List Operand} {vs first cap : List Value} {ts : Array TypeId} {Lc Lr : List Own} {Fc : List Fact} {post : Value → List Own → List Fact → Prop}
    (hw : wantG ops m g = some true) (hx : ev m x = some (.func (.func f) first.toArray cap.toArray)) (hv : Evs m xs vs) (hd : Nat.blt d n = true)
    (hs : Spec P f (first ++ vs ++ cap) Lc Fc post) (hL : Take L Lc Lr) (hF : ∀ φ, φ ∈ Fc → φ ∈ F)
    (h : ∀ v L' F', post v L' F' → RunL G n P ops Q rest ((d, v) :: m) (L' ++ Lr) (F' ++ F)) :
    RunL G n P ops Q (⟨some d, .call ⟨.value x, xs.toArray, ts⟩, ty, pos, af, g⟩ :: rest) m L F := by
  intro a w s
  have hwa := wantG_eq (o := ⟨some d, .call ⟨.value x, xs.toArray, ts⟩, ty, pos, af, g⟩) s.env rfl hw
  refine wpList_step fun K hK => ?_
  rw [if_pos hwa]
  unfold Oper.wp
  rw [run_call hs.1 (s.env.eval hx) (hv.map s.env) w, Oper.upon_enter]
  obtain ⟨t1, t2, t3, t4⟩ := hL.split
  obtain ⟨u1, u2, u3⟩ := t4 s.own.apart
  have kc : ∀ y, keys Lc y → keys L y := fun y ⟨o, ho, hy⟩ => ⟨o, t1 o ho, hy⟩
  have kr : ∀ y, keys Lr y → keys L y := fun y ⟨o, ho, hy⟩ => ⟨o, t2 o ho, hy⟩
  refine (hs.2 w (fun y => G.X y ∨ keys Lr y) ?_ ⟨fun o ho => s.own.all o (t1 o ho), u1⟩ ?_).mono ?_
  · rintro y (hy | hy)
    · exact ⟨Nat.lt_of_lt_of_le (s.x y hy).1 s.keep.size, fun hk => s.xkeys hy (kc y hk)⟩
    · exact ⟨s.own.lt (kr y hy), fun hk => u3 y hk hy⟩
  · intro φ hφ
    refine φ.stable (s.facts φ (hF φ hφ)) ⟨Nat.le_refl _, fun _ _ _ => rfl, fun y _ hy => ?_⟩
    rcases hy with (hy | hy) | hy
    · exact .inl hy
    · exact .inr (kr y hy)
    · exact .inr (kc y hy)
  · rintro e w' ⟨v, L', F', rfl, hpost, hkeep, hown, hnew, hfacts⟩
    refine hK _ _ (h v L' F' hpost _ w' ?_)
    have hsame : ∀ y, keys Lr y → w'.heap[y]? = w.heap[y]? := fun y hy => hkeep.block y (s.own.lt (kr y hy)) fun hk => u3 y hk hy
    have hlr : Owns w' Lr := Owns.same ⟨fun o ho => s.own.all o (t2 o ho), u2⟩ hsame
    have hap : ∀ y, keys L' y → ¬ keys Lr y := fun y hy hk => by
      rcases hnew y hy with h | h
      · exact u3 y h hk
      · have := s.own.lt (kr y hk)
        omega
    have st : St G n m (L' ++ Lr) (F' ++ F) a w' := by
      refine ⟨s.env, s.keep.trans hkeep fun y hy hk => (s.mine y (kc y hk)).resolve_right (by omega), ⟨fun o ho => ?_, ?_⟩, fun y hy => ?_, s.x, fun φ hφ => ?_⟩
      · rcases List.mem_append.1 ho with h | h
        · exact hown.all o h
        · exact hlr.all o h
      · have key : ∀ A : List Own, apart A → (∀ y, keys A y → ¬ keys Lr y) → apart (A ++ Lr) := by
          intro A
          induction A with
          | nil => exact fun _ _ => hlr.apart
          | cons p A ih =>
            intro hA hk
            refine ⟨fun y hy hk' => ?_, ih hA.2 fun y hy => hk y ((keys_cons _ _ _).2 (.inr hy))⟩
            rcases (keys_append _ _ _).1 hk' with h | h
            · exact hA.1 y hy h
            · exact hk y ((keys_cons _ _ _).2 (.inl hy)) h
        exact key L' hown.apart hap
      · rcases (keys_append _ _ _).1 hy with h | h
        · rcases hnew y h with h | h
          · exact s.mine y (kc y h)
          · exact .inr (Nat.le_trans s.keep.size h)
        · exact s.mine y (kr y h)
      · rcases List.mem_append.1 hφ with h | h
        · refine φ.stable (hfacts φ h) ⟨Nat.le_refl _, fun _ _ _ => rfl, fun y _ hy => ?_⟩
          rcases hy with hy | hy
          · exact .inl (.inl hy)
          · rcases (keys_append _ _ _).1 hy with hy | hy
            · exact .inr hy
            · exact .inl (.inr hy)
        · refine φ.stable (s.facts φ h) ⟨hkeep.size, fun y hy hn => hkeep.block y hy fun hk => hn (.inr (kc y hk)), fun y hy hm => ?_⟩
          rcases hm with hm | hm
          · exact .inl hm
          · rcases (keys_append _ _ _).1 hm with h | h
            · rcases hnew y h with h | h
              · exact .inr (kc y h)
              · omega
            · exact .inr (kr y h)
    exact st.put hd v

theorem l_call {f : FuncId} {xs : List Operand} {vs : List Value} {ts : Array TypeId} {Lc Lr : List Own} {Fc : List Fact} {post : Value → List Own → List Fact → Prop}
    (hw : wantG ops m g = some true) (hv : Evs m xs vs) (hd : Nat.blt d n = true)
    (hs : Spec P f vs Lc Fc post) (hL : Take L Lc Lr) (hF : ∀ φ, φ ∈ Fc → φ ∈ F)
    (h : ∀ v L' F', post v L' F' → RunL G n P ops Q rest ((d, v) :: m) (L' ++ Lr) (F' ++ F)) :
    RunL G n P ops Q (⟨some d, .call ⟨.value (.func f), xs.toArray, ts⟩, ty, pos, af, g⟩ :: rest) m L F :=
  l_callF (first := []) (cap := []) hw rfl hv hd (by simpa using hs) hL hF h

/-- A call that only computes. -/
def Gives (v : Value) (v' : Value) (L' : List Own) (F' : List Fact) : Prop := v' = v ∧ L' = [] ∧ F' = []
theorem l_callP {f : FuncId} {xs : List Operand} {vs : List Value} {ts : Array TypeId} {Fc : List Fact} {v : Value}
    (hw : wantG ops m g = some true) (hv : Evs m xs vs) (hd : Nat.blt d n = true)
    (hs : Spec P f vs [] Fc (Gives v)) (hF : ∀ φ, φ ∈ Fc → φ ∈ F)
    (h : RunL G n P ops Q rest ((d, v) :: m) L F) :
    RunL G n P ops Q (⟨some d, .call ⟨.value (.func f), xs.toArray, ts⟩, ty, pos, af, g⟩ :: rest) m L F :=
  l_call hw hv hd hs .nil hF fun v' L' F' ⟨h1, h2, h3⟩ => by subst h1; subst h2; subst h3; exact h
end

theorem Spec.mono {P : Program} {f : FuncId} {args : List Value} {L : List Own} {F : List Fact} {post post' : Value → List Own → List Fact → Prop} (h : Spec P f args L F post) (hp : ∀ v L' F', post v L' F' → post' v L' F') : Spec P f args L F post' :=
  ⟨h.1, fun w X h1 h2 h3 => (h.2 w X h1 h2 h3).mono fun e w' ⟨v, L', F', h4, h5, h6⟩ => ⟨v, L', F', h4, hp _ _ _ h5, h6⟩⟩

/-! ### lists -/
def ListAt {α : Type} (s : Nat) (R : Rep α) (v : Value) (l : List α) (w : World) (M : Nat → Prop) : Prop :=
  ((∃ ad, v = .slice ad 0 0) ∧ l = []) ∨
  ∃ b o cap c t fr, v = .slice (some ⟨b, o, none⟩) l.length cap ∧ l.length ≤ cap ∧ cap ≤ maxLen ∧ w.heap[b]? = some (.cells c t fr) ∧ ¬ M b ∧ o + cap * s ≤ c.size ∧
    ∀ i x, l[i]? = some x → R.holds x ((c.toList.drop (o + i * s)).take s) w M

theorem lt_of_heap {w : World} {b : Nat} {o : Obj} (h : w.heap[b]? = some o) : b < w.heap.size := by
  rcases Nat.lt_or_ge b w.heap.size with hl | hl
  · exact hl
  · rw [Array.getElem?_eq_none hl] at h; cases h

theorem ListAt.stable {α : Type} {s : Nat} {R : Rep α} {v : Value} {l : List α} {w w' : World} {M M' : Nat → Prop} (h : ListAt s R v l w M) (hl : Later w M w' M') : ListAt s R v l w' M' := by
  rcases h with h | ⟨b, o, cap, c, t, fr, h1, h2, h3, h4, h5, h6, h7⟩
  · exact .inl h
  · have hb := lt_of_heap h4
    exact .inr ⟨b, o, cap, c, t, fr, h1, h2, h3, (hl.block b hb h5).trans h4, fun hm => h5 (hl.mine b hb hm), h6, fun i x hx => R.stable (h7 i x hx) hl⟩

def rList {α : Type} (s : Nat) (R : Rep α) : Rep (List α) := ⟨fun l cs w M => ∃ v, cs = [v] ∧ ListAt s R v l w M, fun ⟨v, h1, h2⟩ hl => ⟨v, h1, h2.stable hl⟩⟩
def fList {α : Type} (s : Nat) (R : Rep α) (v : Value) (l : List α) : Fact := ⟨ListAt s R v l, fun h hl => h.stable hl⟩

def rInt (k : IntKind) : Rep Int := ⟨fun x cs _ _ => cs = [.int k x], fun h _ => h⟩
def rBool : Rep Bool := ⟨fun x cs _ _ => cs = [.bool x], fun h _ => h⟩
def rStr : Rep ByteArray := ⟨fun x cs _ _ => cs = [.string x], fun h _ => h⟩

theorem ListAt.slice {α : Type} {s : Nat} {R : Rep α} {v : Value} {l : List α} {w : World} {M : Nat → Prop} (h : ListAt s R v l w M) : ∃ a c, v = .slice a l.length c ∧ l.length ≤ maxLen := by
  rcases h with ⟨⟨ad, h⟩, rfl⟩ | ⟨b, o, cap, c, t, fr, h1, h2, h3, _⟩
  · exact ⟨ad, 0, h, Nat.zero_le _⟩
  · exact ⟨_, _, h1, Nat.le_trans h2 h3⟩

/-- The address of a cell of a slice. -/
def elemPtr (v : Value) (k : Nat) : Value :=
  match v with
  | .slice (some a) _ _ => .pointer (some (a.add k))
  | _ => .nilIface

section
variable {G : Ctx} {n : Nat} {P : Program} {ops : Array Oper} {Q : Post} {rest : List Oper} {m : Regs} {L L' : List Own} {F : List Fact} {a : Act} {w w' : World}
variable {d : Nat} {ty : TypeId} {pos : String} {af : Array Edge} {g : Option (Nat × Bool)} {α : Type} {s : Nat} {R : Rep α} {v : Value} {l : List α}

theorem run_len {t e : TypeId} {x : Operand} {ad : Option Addr} {k c : Nat} [u : Und P t (.slice e)] (st : St G n m L F a w) (hx : ev m x = some v) (hv : v = .slice ad k c) :
    (execOp a.eval ⟨some d, .call ⟨.builtin .len, #[x], #[t]⟩, ty, pos, af, g⟩).run P w = .ok (.value (.int .i64 (k : Int))) w := by
  subst hv
  simp [execOp, st.env.eval hx, resolve, invoke, builtin, Builtin.len_, run_underlying u.out, goInt]
theorem l_lenList {t e : TypeId} {x : Operand} [u : Und P t (.slice e)] (hw : wantG ops m g = some true) (hx : ev m x = some v) (hF : fList s R v l ∈ F) (hd : Nat.blt d n = true)
    (h : l.length ≤ 9223372036854775807 → RunL G n P ops Q rest ((d, .int .i64 (l.length : Int)) :: m) L F) : RunL G n P ops Q (⟨some d, .call ⟨.builtin .len, #[x], #[t]⟩, ty, pos, af, g⟩ :: rest) m L F :=
  l_step hw fun a w st => by
    obtain ⟨ad, c, hv, hm⟩ := ListAt.slice (st.facts _ hF)
    exact ⟨_, w, run_len st hx hv, h (by simpa [maxLen] using hm) _ _ (st.put hd _)⟩
theorem l_lenRow {t e : TypeId} {x : Operand} {E : TypeId} {k : Nat} {xs : List Value} [u : Und P t (.slice e)] (hw : wantG ops m g = some true) (hx : ev m x = some v) (hB : Has L F (.row v E s k xs)) (hd : Nat.blt d n = true)
    (h : k ≤ 9223372036854775807 → RunL G n P ops Q rest ((d, .int .i64 (k : Int)) :: m) L F) : RunL G n P ops Q (⟨some d, .call ⟨.builtin .len, #[x], #[t]⟩, ty, pos, af, g⟩ :: rest) m L F :=
  l_step hw fun a w st => by
    have hr : w.ownsRow 0 E s v k xs := hB.holds st
    rcases hr.2 with ⟨hv, rfl⟩ | ⟨b, cap, cur, hv, _, _, h1, h2, _⟩
    · exact ⟨_, w, run_len st hx hv, h (by omega) _ _ (st.put hd _)⟩
    · have : k ≤ maxLen := Nat.le_trans h1 h2
      exact ⟨_, w, run_len st hx hv, h (by simpa [maxLen] using this) _ _ (st.put hd _)⟩

theorem run_indexAddr {t e : TypeId} {z : Value} {by' : Nat} {x i : Operand} {k : IntKind} {ad : Addr} {N c j : Nat} [u : Und P t (.slice e)] [f : Inf P e z s by'] (st : St G n m L F a w) (hx : ev m x = some v) (hi : ev m i = some (.int k (j : Int))) (hv : v = .slice (some ad) N c) (hj : j < N) :
    (execOp a.eval ⟨some d, .indexAddr t x i, ty, pos, af, g⟩).run P w = .ok (.value (elemPtr v (j * s))) w := by
  subst hv
  have h1 : (0 : Int) ≤ (j : Int) := by omega
  have h2 : (j : Int) < (N : Int) := by omega
  simp [execOp, st.env.eval hx, st.env.eval hi, Instr.indexAt, asIntOf, run_underlying u.out, hj, run_sizeOf f, elemPtr]
theorem l_indexList {t e : TypeId} {z : Value} {by' : Nat} {x i : Operand} {k : IntKind} {q : Int} [u : Und P t (.slice e)] [f : Inf P e z s by'] (j : Nat) (hw : wantG ops m g = some true) (hx : ev m x = some v) (hi : ev m i = some (.int k q)) (hF : fList s R v l ∈ F) (hd : Nat.blt d n = true)
    (hq : q = (j : Int)) (hj : j < l.length) (h : RunL G n P ops Q rest ((d, elemPtr v (j * s)) :: m) L F) : RunL G n P ops Q (⟨some d, .indexAddr t x i, ty, pos, af, g⟩ :: rest) m L F :=
  l_val _ hw hd (fun a w st => by
    subst hq
    have hf : ListAt s R v l w _ := st.facts _ hF
    rcases hf with ⟨_, rfl⟩ | ⟨b, o, cap, c, t', fr, h1, _⟩
    · simp at hj
    · exact run_indexAddr st hx hi h1 hj) h
theorem l_indexRow {t e : TypeId} {z : Value} {by' : Nat} {x i : Operand} {k : IntKind} {q : Int} {E : TypeId} {N : Nat} {xs : List Value} [u : Und P t (.slice e)] [f : Inf P e z s by'] (j : Nat) (hw : wantG ops m g = some true) (hx : ev m x = some v) (hi : ev m i = some (.int k q)) (hB : Has L F (.row v E s N xs)) (hd : Nat.blt d n = true)
    (hq : q = (j : Int)) (hj : j < N) (h : RunL G n P ops Q rest ((d, elemPtr v (j * s)) :: m) L F) : RunL G n P ops Q (⟨some d, .indexAddr t x i, ty, pos, af, g⟩ :: rest) m L F :=
  l_val _ hw hd (fun a w st => by
    subst hq
    have hr : w.ownsRow 0 E s v N xs := hB.holds st
    rcases hr.2 with ⟨hv, rfl⟩ | ⟨b, cap, cur, hv, _⟩
    · omega
    · exact run_indexAddr st hx hi hv hj) h

/-- An element of one cell is loaded: what it is, its Rep tells. -/
theorem l_loadList {t : TypeId} {D : TypeDesc} {x : Operand} {k : Nat} {y : α} [u : Und P t D] (hw : wantG ops m g = some true) (hx : ev m x = some (elemPtr v k)) (hF : fList 1 R v l ∈ F) (hD : aggD D = false) (hy : l[k]? = some y) (hd : Nat.blt d n = true)
    (h : ∀ c, RunL G n P ops Q rest ((d, c) :: m) L (R.fact y [c] :: F)) : RunL G n P ops Q (⟨some d, .load t x, ty, pos, af, g⟩ :: rest) m L F :=
  l_step hw fun a w st => by
    have hf : ListAt 1 R v l w _ := st.facts _ hF
    rcases hf with ⟨_, rfl⟩ | ⟨b, o, cap, c, t', fr, h1, h2, h3, h4, h5, h6, h7⟩
    · simp at hy
    · have hk : k < l.length := (List.getElem?_eq_some_iff.1 hy).1
      have hR := h7 k y hy
      have hlt : o + k < c.size := by omega
      have hc : c[o + k]? = some c[o + k] := Array.getElem?_eq_getElem hlt
      have e : (c.toList.drop (o + k * 1)).take 1 = [c[o + k]] := by
        rw [Nat.mul_one, List.drop_eq_getElem_cons (by simpa using hlt)]
        simp
      rw [e] at hR
      refine ⟨c[o + k], w, ?_, h _ _ _ ((st.fact (φ := R.fact y [c[o + k]]) hR).put hd _)⟩
      have hcell : w.cell? ⟨b, o + k, none⟩ = some c[o + k] := by rw [cell_of_row w b (o + k) c t' fr h4, hc]
      subst h1
      simp [execOp, st.env.eval hx, elemPtr, Instr.loadAt, Instr.sureAddr, loadVar, run_isAgg u, hD, load, Sem.run, add_at, hcell]
theorem l_loadInt {t : TypeId} {D : TypeDesc} {x : Operand} {k : Nat} {ik : IntKind} {y : Int} {l : List Int} [u : Und P t D] (hw : wantG ops m g = some true) (hx : ev m x = some (elemPtr v k)) (hF : fList 1 (rInt ik) v l ∈ F) (hD : aggD D = false) (hy : l[k]? = some y) (hd : Nat.blt d n = true)
    (h : RunL G n P ops Q rest ((d, .int ik y) :: m) L F) : RunL G n P ops Q (⟨some d, .load t x, ty, pos, af, g⟩ :: rest) m L F :=
  l_loadList hw hx hF hD hy hd fun c a w st => by
    have hc : [c] = [Value.int ik y] := st.facts _ (.head _)
    injection hc with hc
    subst hc
    exact h a w (st.sub (fun _ _ h => h) fun φ h => .tail _ h)
theorem l_loadStr {t : TypeId} {D : TypeDesc} {x : Operand} {k : Nat} {y : ByteArray} {l : List ByteArray} [u : Und P t D] (hw : wantG ops m g = some true) (hx : ev m x = some (elemPtr v k)) (hF : fList 1 rStr v l ∈ F) (hD : aggD D = false) (hy : l[k]? = some y) (hd : Nat.blt d n = true)
    (h : RunL G n P ops Q rest ((d, .string y) :: m) L F) : RunL G n P ops Q (⟨some d, .load t x, ty, pos, af, g⟩ :: rest) m L F :=
  l_loadList hw hx hF hD hy hd fun c a w st => by
    have hc : [c] = [Value.string y] := st.facts _ (.head _)
    injection hc with hc
    subst hc
    exact h a w (st.sub (fun _ _ h => h) fun φ h => .tail _ h)

/-! ### rows of one's own -/
theorem row_cell {E : TypeId} {N k : Nat} {xs : List Value} {u : Value} (hr : w.ownsRow 0 E s v N xs) (hu : xs[k]? = some u) : ∃ b cap cur, v = .slice (some ⟨b, 0, none⟩) N cap ∧ w.heap[b]? = some (.cells cur E (0, 0)) ∧ cur[k]? = some u ∧ k < N * s := by
  rcases hr.2 with ⟨hv, h0⟩ | ⟨b, cap, cur, hv, _, hh, h1, h2, h3, h4⟩
  · have : xs = [] := List.eq_nil_of_length_eq_zero (by rw [hr.1, h0]; simp)
    subst this; simp at hu
  · have hk : k < xs.length := (List.getElem?_eq_some_iff.1 hu).1
    rw [hr.1] at hk
    rw [← h4, List.getElem?_take, if_pos hk] at hu
    exact ⟨b, cap, cur, hv, hh, by simpa using hu, hk⟩
theorem l_loadRow {t : TypeId} {D : TypeDesc} {x : Operand} {E : TypeId} {N k : Nat} {xs : List Value} {y : Value} [u : Und P t D] (hw : wantG ops m g = some true) (hx : ev m x = some (elemPtr v k)) (hB : Has L F (.row v E s N xs)) (hD : aggD D = false) (hy : xs[k]? = some y) (hd : Nat.blt d n = true)
    (h : RunL G n P ops Q rest ((d, y) :: m) L F) : RunL G n P ops Q (⟨some d, .load t x, ty, pos, af, g⟩ :: rest) m L F :=
  l_val y hw hd (fun a w st => by
    obtain ⟨b, cap, cur, hv, hh, hc, _⟩ := row_cell (hB.holds st) hy
    have hcell : w.cell? ⟨b, k, none⟩ = some y := by rw [cell_of_row w b k cur E _ hh, hc]
    subst hv
    simp [execOp, st.env.eval hx, elemPtr, Instr.loadAt, Instr.sureAddr, loadVar, run_isAgg u, hD, load, Sem.run, add_at, hcell]) h
theorem l_storeRow {t : TypeId} {z : Value} {by' : Nat} [i : Inf P t z 1 by'] {x y : Operand} {E : TypeId} {N k : Nat} {xs : List Value} {u : Value} (hw : wantG ops m g = some true) (hx : ev m x = some (elemPtr v k)) (hy : ev m y = some u) (hu : Upd L (.row v E s N xs) (.row v E s N (xs.set k u)) L')
    (hc : Cells u [u]) (h1 : u.oneCell' = true) (hk : k < xs.length) (h : RunL G n P ops Q rest m L' F) : RunL G n P ops Q (⟨none, .store t x y, ty, pos, af, g⟩ :: rest) m L F :=
  l_skip rfl hw fun a w st => by
    have hr : w.ownsRow 0 E s v N xs := st.own.all _ hu.mem
    obtain ⟨b, cap, cur, hv, hh, hc', hkn⟩ := row_cell hr (List.getElem?_eq_getElem hk)
    have hlt : k < cur.size := (Array.getElem?_eq_some_iff.1 hc').1
    have hst := run_store_box (P := P) (t := t) (w := w) (b := b) (o := k) (c := cur.toList) (T := E) (c' := cur.toList.set k u) (by simpa using hh) hc (by intro x hx; simp at hx; subst hx; exact h1) (by simp) (by
      have key : ∀ (k : Nat) (c : List Value), k < c.length → PutAt c k [u] (c.set k u) := by
        intro k
        induction k with
        | zero => intro c hc; cases c with
          | nil => simp at hc
          | cons x r => exact .here (.cons .nil)
        | succ k ih => intro c hc; cases c with
          | nil => simp at hc
          | cons x r => exact .next (ih r (by simpa using hc))
      exact key k cur.toList (by simpa using hlt))
    refine ⟨_, ?_, h a _ (st.upd hu (w' := w.setRow b (cur.toList.set k u).toArray) ?_ ?_ ?_)⟩
    · have hx' := st.env.eval hx
      rw [hv] at hx'
      simp only [elemPtr, add_at, Nat.zero_add] at hx'
      simp [execOp, hx', st.env.eval hy, Instr.storeAt, Instr.sureAddr, hst]
    · subst hv
      have := keep_setRow (cur.toList.set k u).toArray hh
      exact ⟨this.os, this.tape, this.output, this.size, fun x hx hn => this.block x hx fun e => hn (by simp [Own.key, Value.ownBlock, e])⟩
    · refine ⟨by rw [List.length_set]; exact hr.1, .inr ⟨b, cap, (cur.toList.set k u).toArray, hv, Nat.zero_le _, setRow_heap w b cur _ E (0, 0) hh, ?_⟩⟩
      rcases hr.2 with ⟨hv', h0⟩ | ⟨b', cap', cur', hv', _, hh', q1, q2, q3, q4⟩
      · rw [hv] at hv'; cases hv'
      · rw [hv] at hv'
        injection hv' with e1 e2 e3
        injection e1 with e1; injection e1 with e1
        subst e1; subst e3
        rw [hh] at hh'
        injection hh' with hh'; injection hh' with hh'
        subst hh'
        refine ⟨q1, q2, by simpa using q3, ?_⟩
        rw [List.take_set, q4]
    · intro x hx; exact .inl hx
end
end Go.Proofs.YtbllgmcpebifhaaDoor.K
