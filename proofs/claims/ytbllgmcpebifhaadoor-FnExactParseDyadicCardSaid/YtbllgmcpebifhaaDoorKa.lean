/- The engine, part a: a walk's state as registers, own blocks and lasting facts, and the rules of control. -/
import Derived.WalkKit
import Derived.WalkLawsBesides
import Derived.KernelRfl
namespace Go.Proofs.YtbllgmcpebifhaaDoor.K
open Go Go.RowKit
set_option linter.all false

/-! ### registers -/
abbrev Regs := List (Nat × Value)

def look : Regs → Nat → Option Value
  | [], _ => none
  | (t, v) :: r, s => match Nat.beq t s with
    | true => some v
    | false => look r s

theorem look_cons (t s : Nat) (v : Value) (r : Regs) : look ((t, v) :: r) s = if t = s then some v else look r s := by
  simp only [look]
  cases e : Nat.beq t s with
  | true => rw [if_pos (Nat.eq_of_beq_eq_true e)]
  | false => rw [if_neg (Nat.ne_of_beq_eq_false e)]

structure Env (n : Nat) (m : Regs) (a : Act) : Prop where
  defers : a.defers = []
  size : a.tmps.size = n
  get : ∀ t v, look m t = some v → a.tmps[t]? = some v

theorem Env.put {n d : Nat} {m : Regs} {a : Act} (h : Env n m a) (hd : d < n) (v : Value) : Env n ((d, v) :: m) (a.put (some d) v) := by
  have hs := h.size
  refine ⟨h.defers, by simp [Act.put, hs], fun t u ht => ?_⟩
  rw [look_cons] at ht
  by_cases e : d = t
  · subst e
    rw [if_pos rfl] at ht
    injection ht with ht
    subst ht
    simp [Act.put, hs, hd]
  · rw [if_neg e] at ht
    have := h.get t u ht
    simp only [Act.put]
    rw [Array.getElem?_setIfInBounds, if_neg e]
    exact this

theorem Env.putNone {n : Nat} {m : Regs} {a : Act} (h : Env n m a) (v : Value) : Env n m (a.put none v) := h

theorem Env.getD {n t : Nat} {m : Regs} {a : Act} {v : Value} (h : Env n m a) (ht : look m t = some v) : a.tmps.getD t undef = v := by
  have := h.get t v ht
  rw [Array.getD_eq_getD_getElem?, this]
  rfl

/-- The value of an operand. -/
def ev (m : Regs) : Operand → Option Value
  | .tmp t => look m t
  | .const v => some v
  | .global g => some (.pointer (some ⟨g, 0, none⟩))
  | .func f => some (.func (.func f) #[] #[])

theorem Env.eval {n : Nat} {m : Regs} {a : Act} {x : Operand} {v : Value} (h : Env n m a) (hx : ev m x = some v) : a.eval x = v := by
  cases x with
  | tmp t => exact h.getD hx
  | const u => simpa [ev, Act.eval] using hx
  | global g => simpa [ev, Act.eval] using hx
  | func f => simpa [ev, Act.eval] using hx

/-- Is an operation wanted? -/
def wants (ops : Array Oper) (m : Regs) (o : Oper) : Option Bool :=
  match o.guard with
  | none => some true
  | some (j, want) => match (ops[j]?).bind (·.dst) with
    | none => none
    | some t => match look m t with
      | some (.bool b) => some (b == want)
      | some (.tuple _) => some false
      | _ => none

theorem wants_eq {n : Nat} {m : Regs} {a : Act} {ops : Array Oper} {o : Oper} {b : Bool} (h : Env n m a) (hw : wants ops m o = some b) : Region.wanted o (yielded ops a.tmps) = b := by
  unfold wants at hw
  unfold Region.wanted
  split at hw
  · rename_i hg
    simp only [hg]
    injection hw with hw
  · rename_i j want hg
    simp only [hg]
    split at hw
    · cases hw
    · rename_i t ht
      split at hw
      · rename_i c hc
        injection hw with hw
        subst hw
        have := h.get t _ hc
        simp only [yielded, ht, Option.bind_some, this]
        cases c <;> cases want <;> rfl
      · rename_i vs hc
        injection hw with hw
        subst hw
        have := h.get t _ hc
        simp [yielded, ht, Option.bind_some, this]
      · cases hw

/-! ### own blocks -/
inductive Own where
  | box (b : Nat) (c : List Value) (t : TypeId)
  | row (v : Value) (e : TypeId) (size n : Nat) (xs : List Value)

def Own.key : Own → Nat → Prop
  | .box b _ _, x => x = b
  | .row v _ _ _ _, x => v.ownBlock = some x

def Own.holds (w : World) : Own → Prop
  | .box b c t => w.heap[b]? = some (.cells c.toArray t (0, 0))
  | .row v e size n xs => w.ownsRow 0 e size v n xs

theorem Own.key_lt {w : World} {o : Own} (h : o.holds w) {x : Nat} (hx : o.key x) : x < w.heap.size := by
  cases o with
  | box b c t =>
    cases hx
    have h' : w.heap[x]? = some (.cells c.toArray t (0, 0)) := h
    rcases Nat.lt_or_ge x w.heap.size with hl | hl
    · exact hl
    · rw [Array.getElem?_eq_none hl] at h'; cases h'
  | row v e size n xs => exact (World.ownsRow.lt h x hx).2

def keys (L : List Own) (x : Nat) : Prop := ∃ o, o ∈ L ∧ o.key x

theorem keys_nil (x : Nat) : ¬ keys [] x := fun ⟨_, h, _⟩ => by cases h
theorem keys_cons (o : Own) (L : List Own) (x : Nat) : keys (o :: L) x ↔ o.key x ∨ keys L x := by
  constructor
  · rintro ⟨p, h, hk⟩
    cases h with
    | head => exact .inl hk
    | tail _ h => exact .inr ⟨p, h, hk⟩
  · rintro (h | ⟨p, h, hk⟩)
    · exact ⟨o, .head _, h⟩
    · exact ⟨p, .tail _ h, hk⟩
theorem keys_append (L R : List Own) (x : Nat) : keys (L ++ R) x ↔ keys L x ∨ keys R x := by
  constructor
  · rintro ⟨p, h, hk⟩
    rcases List.mem_append.1 h with h | h
    · exact .inl ⟨p, h, hk⟩
    · exact .inr ⟨p, h, hk⟩
  · rintro (⟨p, h, hk⟩ | ⟨p, h, hk⟩)
    · exact ⟨p, List.mem_append.2 (.inl h), hk⟩
    · exact ⟨p, List.mem_append.2 (.inr h), hk⟩

def apart : List Own → Prop
  | [] => True
  | o :: L => (∀ x, o.key x → ¬ keys L x) ∧ apart L

structure Owns (w : World) (L : List Own) : Prop where
  all : ∀ o, o ∈ L → o.holds w
  apart : apart L

theorem Owns.lt {w : World} {L : List Own} (h : Owns w L) {x : Nat} (hx : keys L x) : x < w.heap.size := by
  obtain ⟨o, ho, hk⟩ := hx
  exact Own.key_lt (h.all o ho) hk

/-- The block is as it was: so is what is owned there. -/
theorem Own.same {w w' : World} {o : Own} (h : o.holds w) (hs : ∀ x, o.key x → w'.heap[x]? = w.heap[x]?) : o.holds w' := by
  cases o with
  | box b c t => exact (hs b rfl).trans h
  | row v e size n xs =>
    obtain ⟨h1, h2⟩ := h
    refine ⟨h1, ?_⟩
    rcases h2 with h2 | ⟨g, cap, cur, hv, hg, hh, r⟩
    · exact .inl h2
    · exact .inr ⟨g, cap, cur, hv, hg, (hs g (by simp [Own.key, hv, Value.ownBlock])).trans hh, r⟩

theorem Owns.same {w w' : World} {L : List Own} (h : Owns w L) (hs : ∀ x, keys L x → w'.heap[x]? = w.heap[x]?) : Owns w' L :=
  ⟨fun o ho => Own.same (h.all o ho) fun x hx => hs x ⟨o, ho, hx⟩, h.apart⟩

/-! ### what lasts -/
/-- What was there and is not in M has not turned; M holds no more of what was there. -/
structure Later (w : World) (M : Nat → Prop) (w' : World) (M' : Nat → Prop) : Prop where
  size : w.heap.size ≤ w'.heap.size
  block : ∀ x, x < w.heap.size → ¬ M x → w'.heap[x]? = w.heap[x]?
  mine : ∀ x, x < w.heap.size → M' x → M x

theorem Later.refl (w : World) (M : Nat → Prop) : Later w M w M := ⟨Nat.le_refl _, fun _ _ _ => rfl, fun _ _ h => h⟩

structure Fact where
  holds : World → (Nat → Prop) → Prop
  stable : ∀ {w M w' M'}, holds w M → Later w M w' M' → holds w' M'

/-- How cells tell a datum. -/
structure Rep (α : Type) where
  holds : α → List Value → World → (Nat → Prop) → Prop
  stable : ∀ {x cs w M w' M'}, holds x cs w M → Later w M w' M' → holds x cs w' M'

def Rep.fact {α : Type} (R : Rep α) (x : α) (cs : List Value) : Fact := ⟨R.holds x cs, R.stable⟩

/-! ### the state -/
structure Ctx where
  w0 : World
  X : Nat → Prop
  K0 : Nat → Prop

structure Keep (K : Nat → Prop) (w w' : World) : Prop where
  os : w'.os = w.os
  tape : w'.tape = w.tape
  output : w'.output = w.output
  size : w.heap.size ≤ w'.heap.size
  block : ∀ x, x < w.heap.size → ¬ K x → w'.heap[x]? = w.heap[x]?

theorem Keep.refl (K : Nat → Prop) (w : World) : Keep K w w := ⟨rfl, rfl, rfl, Nat.le_refl _, fun _ _ _ => rfl⟩
theorem Keep.trans {K K' : Nat → Prop} {a b c : World} (h : Keep K a b) (k : Keep K' b c) (hk : ∀ x, x < a.heap.size → K' x → K x) : Keep K a c :=
  ⟨k.os.trans h.os, k.tape.trans h.tape, k.output.trans h.output, Nat.le_trans h.size k.size,
    fun x hx hn => (k.block x (Nat.lt_of_lt_of_le hx h.size) fun h' => hn (hk x hx h')).trans (h.block x hx hn)⟩

structure St (G : Ctx) (n : Nat) (m : Regs) (L : List Own) (F : List Fact) (a : Act) (w : World) : Prop where
  env : Env n m a
  keep : Keep G.K0 G.w0 w
  own : Owns w L
  mine : ∀ x, keys L x → G.K0 x ∨ G.w0.heap.size ≤ x
  x : ∀ x, G.X x → x < G.w0.heap.size ∧ ¬ G.K0 x
  facts : ∀ φ, φ ∈ F → φ.holds w (fun x => G.X x ∨ keys L x)

theorem St.xkeys {G : Ctx} {n : Nat} {m : Regs} {L : List Own} {F : List Fact} {a : Act} {w : World} (s : St G n m L F a w) {x : Nat} (hx : G.X x) : ¬ keys L x := by
  intro hk
  obtain ⟨h1, h2⟩ := s.x x hx
  rcases s.mine x hk with h | h
  · exact h2 h
  · omega

/-! ### what is to be shown -/
abbrev Post := Exit → Act → World → Prop

def RunL (G : Ctx) (n : Nat) (P : Program) (ops : Array Oper) (Q : Post) (rest : List Oper) (m : Regs) (L : List Own) (F : List Fact) : Prop :=
  ∀ a w, St G n m L F a w → wpList P ops Q rest a w
def RunC (G : Ctx) (n : Nat) (P : Program) (c : Code) (Q : Post) (m : Regs) (L : List Own) (F : List Fact) : Prop :=
  ∀ a w, St G n m L F a w → c.wp P Q a w
def Ends (G : Ctx) (n : Nat) (Q : Post) (e : Exit) (m : Regs) (L : List Own) (F : List Fact) : Prop :=
  ∀ a w, St G n m L F a w → Q e a w

section control
variable {G : Ctx} {n : Nat} {P : Program} {Q : Post} {m : Regs} {L : List Own} {F : List Fact}

theorem c_seq {x y : Code} (h : RunC G n P x (Exit.then (fun a w => y.wp P Q a w) Q) m L F) : RunC G n P (.seq x y) Q m L F :=
  fun a w s => wp_seq (h a w s)
theorem c_skip (h : Ends G n Q .normal m L F) : RunC G n P .skip Q m L F := fun a w s => wp_skip (h a w s)
theorem c_ret (h : Ends G n Q .ret m L F) : RunC G n P .ret Q m L F := fun a w s => wp_ret (h a w s)
theorem c_exit {i : Nat} (h : Ends G n Q (.exit i) m L F) : RunC G n P (.exit i) Q m L F := fun a w s => wp_exit (h a w s)
theorem c_block {i : Nat} {c : Code} (h : RunC G n P c (Exit.inBlock i Q) m L F) : RunC G n P (.block i c) Q m L F := fun a w s => wp_block (h a w s)
theorem c_region {i : Nat} {l : List Oper} (h : RunL G n P l.toArray Q l m L F) : RunC G n P (.region i l.toArray false) Q m L F := fun a w s => wp_region_lit (h a w s)
theorem c_cond {c : Operand} {x y : Code} {b : Bool} (hb : ev m c = some (.bool b)) (ht : b = true → RunC G n P x Q m L F) (hf : b = false → RunC G n P y Q m L F) : RunC G n P (.cond c x y) Q m L F := by
  intro a w s
  exact wp_cond_split (s.env.eval hb) (fun h => ht h a w s) (fun h => hf h a w s)
theorem c_true {c : Operand} {x y : Code} {b : Bool} (hb : ev m c = some (.bool b)) (h1 : b = true) (ht : RunC G n P x Q m L F) : RunC G n P (.cond c x y) Q m L F :=
  c_cond hb (fun _ => ht) (fun h => by rw [h1] at h; cases h)
theorem c_false {c : Operand} {x y : Code} {b : Bool} (hb : ev m c = some (.bool b)) (h1 : b = false) (hf : RunC G n P y Q m L F) : RunC G n P (.cond c x y) Q m L F :=
  c_cond hb (fun h => by rw [h1] at h; cases h) (fun _ => hf)

theorem l_nil {ops : Array Oper} (h : Ends G n Q .normal m L F) : RunL G n P ops Q [] m L F := fun a w s => wpList_nil (h a w s)
theorem e_then {c : Code} (h : RunC G n P c Q m L F) : Ends G n (Exit.then (fun a w => c.wp P Q a w) Q) .normal m L F := h
theorem e_then_ret {K : Act → World → Prop} (h : Ends G n Q .ret m L F) : Ends G n (Exit.then K Q) .ret m L F := h
theorem e_then_exit {K : Act → World → Prop} {i : Nat} (h : Ends G n Q (.exit i) m L F) : Ends G n (Exit.then K Q) (.exit i) m L F := h
theorem e_block {i : Nat} (h : Ends G n Q .normal m L F) : Ends G n (Exit.inBlock i Q) .normal m L F := h
theorem e_block_ret {i : Nat} (h : Ends G n Q .ret m L F) : Ends G n (Exit.inBlock i Q) .ret m L F := h
theorem e_block_exit {i : Nat} (h : Ends G n Q .normal m L F) : Ends G n (Exit.inBlock i Q) (.exit i) m L F := fun a w s => by
  show (if i = i then Q .normal a w else Q (.exit i) a w)
  rw [if_pos rfl]; exact h a w s
theorem e_block_past {i j : Nat} (hn : Nat.beq i j = false) (h : Ends G n Q (.exit i) m L F) : Ends G n (Exit.inBlock j Q) (.exit i) m L F := fun a w s => by
  show (if i = j then Q .normal a w else Q (.exit i) a w)
  rw [if_neg (Nat.ne_of_beq_eq_false hn)]; exact h a w s

/-- Less is known. -/
theorem St.sub {G : Ctx} {n : Nat} {m m' : Regs} {L : List Own} {F F' : List Fact} {a : Act} {w : World} (s : St G n m L F a w)
    (hm : ∀ t v, look m' t = some v → look m t = some v) (hF : ∀ φ, φ ∈ F' → φ ∈ F) : St G n m' L F' a w :=
  ⟨⟨s.env.defers, s.env.size, fun t v h => s.env.get t v (hm t v h)⟩, s.keep, s.own, s.mine, s.x, fun φ h => s.facts φ (hF φ h)⟩

end control

theorem sub_nil {m : Regs} : ∀ t v, look [] t = some v → look m t = some v := fun t v h => by simp [look] at h
theorem sub_cons {m m' : Regs} {t : Nat} {v : Value} (h : look m t = some v) (hr : ∀ t v, look m' t = some v → look m t = some v) :
    ∀ s u, look ((t, v) :: m') s = some u → look m s = some u := by
  intro s u hs
  rw [look_cons] at hs
  by_cases e : t = s
  · rw [if_pos e] at hs
    rw [← e, h]; exact hs
  · rw [if_neg e] at hs
    exact hr s u hs
theorem fsub_nil {F : List Fact} : ∀ φ, φ ∈ [] → φ ∈ F := fun _ h => by cases h
theorem fsub_cons {F F' : List Fact} {ψ : Fact} (h : ψ ∈ F) (hr : ∀ φ, φ ∈ F' → φ ∈ F) : ∀ φ, φ ∈ ψ :: F' → φ ∈ F := by
  intro φ hφ
  cases hφ with
  | head => exact h
  | tail _ h' => exact hr φ h'

/-! ### a loop -/
theorem c_loop {G : Ctx} {n : Nat} {P : Program} {Q : Post} {m : Regs} {L : List Own} {F : List Fact} {c : Code} {ι : Type} (mI : ι → Regs) (LI : ι → List Own) (FI : ι → List Fact) (μ : ι → Nat) (i0 : ι)
    (h0 : ∀ a w, St G n m L F a w → St G n (mI i0) (LI i0) (FI i0) a w)
    (round : ∀ i, RunC G n P c (Exit.then (fun a w => ∃ i', μ i' < μ i ∧ St G n (mI i') (LI i') (FI i') a w) Q) (mI i) (LI i) (FI i)) : RunC G n P (.loop c) Q m L F := by
  intro a w s
  classical
  have key : ∀ (a : Act) (w : World), (∃ k, ∃ i, μ i = k ∧ St G n (mI i) (LI i) (FI i) a w) →
      ∃ k, (∃ i, μ i = k ∧ St G n (mI i) (LI i) (FI i) a w) ∧ ∀ j, (∃ i, μ i = j ∧ St G n (mI i) (LI i) (FI i) a w) → k ≤ j := by
    intro a w h
    obtain ⟨k, hk⟩ := h
    induction k using Nat.strongRecOn with
    | _ k ih =>
      by_cases hex : ∃ j, j < k ∧ ∃ i, μ i = j ∧ St G n (mI i) (LI i) (FI i) a w
      · obtain ⟨j, hj, hi⟩ := hex
        exact ih j hj hi
      · refine ⟨k, hk, fun j hj => ?_⟩
        rcases Nat.lt_or_ge j k with h | h
        · exact absurd ⟨j, h, hj⟩ hex
        · exact h
  let μ' : Act → World → Nat := fun a w => if h : ∃ k, ∃ i, μ i = k ∧ St G n (mI i) (LI i) (FI i) a w then Classical.choose (key a w h) else 0
  have hle : ∀ i a w, St G n (mI i) (LI i) (FI i) a w → μ' a w ≤ μ i := by
    intro i a w s
    have h : ∃ k, ∃ i, μ i = k ∧ St G n (mI i) (LI i) (FI i) a w := ⟨μ i, i, rfl, s⟩
    show dite _ _ _ ≤ _
    rw [dif_pos h]
    exact (Classical.choose_spec (key a w h)).2 (μ i) ⟨i, rfl, s⟩
  refine wp_loop (fun a w => ∃ i, St G n (mI i) (LI i) (FI i) a w) μ' ⟨i0, h0 a w s⟩ ?_
  rintro a w ⟨i1, s1⟩
  have h : ∃ k, ∃ i, μ i = k ∧ St G n (mI i) (LI i) (FI i) a w := ⟨μ i1, i1, rfl, s1⟩
  obtain ⟨i, hi, si⟩ := (Classical.choose_spec (key a w h)).1
  have hμ : μ' a w = μ i := by
    show dite _ _ _ = _
    rw [dif_pos h]; exact hi.symm
  refine wp_mono (round i a w si) ?_
  intro e a' w' hq
  cases e with
  | normal =>
    obtain ⟨i', hlt, s'⟩ := hq
    refine ⟨⟨i', s'⟩, ?_⟩
    rw [hμ]
    exact Nat.lt_of_le_of_lt (hle i' a' w' s') hlt
  | _ => exact hq

/-! ### a function's contract -/
/-- A function that is entered when it is called. -/
def Plain (P : Program) (f : FuncId) : Prop := ∃ fn c, P.funcs[f]? = some fn ∧ fn.body = some c ∧ (fn.name == "runtime.NumGoroutine") = false

def Spec (P : Program) (f : FuncId) (args : List Value) (L : List Own) (F : List Fact) (post : Value → List Own → List Fact → Prop) : Prop :=
  Plain P f ∧ ∀ (w : World) (X : Nat → Prop), (∀ x, X x → x < w.heap.size ∧ ¬ keys L x) → Owns w L → (∀ φ, φ ∈ F → φ.holds w (fun x => X x ∨ keys L x)) →
    Calls P f args.toArray w fun e w' => ∃ v L' F', e = .returned v ∧ post v L' F' ∧ Keep (keys L) w w' ∧ Owns w' L' ∧
      (∀ x, keys L' x → keys L x ∨ w.heap.size ≤ x) ∧ (∀ φ, φ ∈ F' → φ.holds w' (fun x => X x ∨ keys L' x))

/-- What the last return must show. -/
def Fin (G : Ctx) (post : Value → List Own → List Fact → Prop) (e : Ending) (w' : World) : Prop :=
  ∃ v L' F', e = .returned v ∧ post v L' F' ∧ Keep G.K0 G.w0 w' ∧ Owns w' L' ∧ (∀ x, keys L' x → G.K0 x ∨ G.w0.heap.size ≤ x) ∧ (∀ φ, φ ∈ F' → φ.holds w' (fun x => G.X x ∨ keys L' x))

/-- The first registers. -/
def regsOf : Nat → List Value → Regs
  | _, [] => []
  | k, v :: r => (k, v) :: regsOf (k + 1) r
theorem look_regsOf (l : List Value) : ∀ (k t : Nat) (v : Value), look (regsOf k l) t = some v → k ≤ t ∧ l[t - k]? = some v := by
  induction l with
  | nil => intro k t v h; simp [regsOf, look] at h
  | cons u r ih =>
    intro k t v h
    rw [regsOf, look_cons] at h
    by_cases e : k = t
    · rw [if_pos e] at h; subst e
      exact ⟨Nat.le_refl _, by simpa using h⟩
    · rw [if_neg e] at h
      obtain ⟨h1, h2⟩ := ih (k + 1) t v h
      refine ⟨by omega, ?_⟩
      have : t - k = (t - (k + 1)) + 1 := by omega
      rw [this, List.getElem?_cons_succ]; exact h2

theorem spec_intro {P : Program} {f : FuncId} {fn : Func} {c : Code} {args : List Value} {L : List Own} {F : List Fact} {post : Value → List Own → List Fact → Prop}
    (hf : P.funcs[f]? = some fn) (hb : fn.body = some c) (hnm : (fn.name == "runtime.NumGoroutine") = false) (hn : args.length ≤ fn.ntmps)
    (h : ∀ G : Ctx, RunC G fn.ntmps P c (bodyPost P fn (Fin G post)) (regsOf 0 args) L F) : Spec P f args L F post := by
  refine ⟨⟨fn, c, hf, hb, hnm⟩, fun w X hX hL hF => ?_⟩
  refine calls_of_wp hf hb ?_
  have := h ⟨w, X, keys L⟩ { tmps := args.toArray ++ Array.replicate (fn.ntmps - args.toArray.size) undef, defers := [] } w
    ⟨⟨rfl, by simp; omega, fun t v ht => by
        obtain ⟨_, h2⟩ := look_regsOf args 0 t v ht
        have hlt : t < args.length := (List.getElem?_eq_some_iff.1 h2).1
        rw [Array.getElem?_append_left (by simpa using hlt)]
        simpa using h2⟩, Keep.refl _ _, hL, fun x hx => .inl hx, hX, hF⟩
  exact this

/-- The return. -/
theorem e_ret {G : Ctx} {n : Nat} {P : Program} {fn : Func} {post : Value → List Own → List Fact → Prop} {m : Regs} {L : List Own} {F : List Fact} (v : Value) (L' : List Own) (F' : List Fact)
    (hr : ∀ a w, St G n m L F a w → (results fn a.tmps).run P w = .ok v w)
    (hL : ∀ o, o ∈ L' → o ∈ L) (hap : ∀ w, Owns w L → apart L') (hF : ∀ φ, φ ∈ F' → φ ∈ F) (hp : post v L' F') : Ends G n (bodyPost P fn (Fin G post)) .ret m L F := by
  intro a w s
  have hk : ∀ x, keys L' x → keys L x := fun x ⟨o, ho, hx⟩ => ⟨o, hL o ho, hx⟩
  refine ⟨s.env.defers, v, hr a w s, v, L', F', rfl, hp, s.keep, ⟨fun o ho => s.own.all o (hL o ho), hap w s.own⟩, fun x hx => s.mine x (hk x hx), fun φ hφ => ?_⟩
  exact φ.stable (s.facts φ (hF φ hφ)) ⟨Nat.le_refl _, fun _ _ _ => rfl, fun x _ hx => hx.imp id (hk x)⟩
theorem e_end {G : Ctx} {n : Nat} {P : Program} {fn : Func} {post : Value → List Own → List Fact → Prop} {m : Regs} {L : List Own} {F : List Fact} (h : Ends G n (bodyPost P fn (Fin G post)) .ret m L F) :
    Ends G n (bodyPost P fn (Fin G post)) .normal m L F := h
end Go.Proofs.YtbllgmcpebifhaaDoor.K
