/- The engine, part a: a walk's state as registers, own blocks and lasting facts, and the rules of control. -/
import Derived.WalkKit
import Derived.WalkLawsBesides
import Derived.KernelRfl
import Derived.Maps.AppendAt

section
namespace Go.Proofs.YtbllgmcpebifhaaGreatDoor.K
open Go Go.RowKit
set_option linter.all false

/-! ### registers -/
abbrev Regs := List (Nat × Value)

def look : Regs → Nat → Option Value
  | [], _ => none
  | (t, v) :: r, s => match Nat.beq t s with
    | true => some v
    | false => look r s

theorem look_cons (t s : Nat) (v : Value) (r : Regs) : look ((t, v) :: r) s = if t = s then some v else look r s := by
  simp only [look]
  cases e : Nat.beq t s with
  | true => rw [if_pos (Nat.eq_of_beq_eq_true e)]
  | false => rw [if_neg (Nat.ne_of_beq_eq_false e)]

structure Env (n : Nat) (m : Regs) (a : Act) : Prop where
  defers : a.defers = []
  size : a.tmps.size = n
  get : ∀ t v, look m t = some v → a.tmps[t]? = some v

theorem Env.put {n d : Nat} {m : Regs} {a : Act} (h : Env n m a) (hd : d < n) (v : Value) : Env n ((d, v) :: m) (a.put (some d) v) := by
  have hs := h.size
  refine ⟨h.defers, by simp [Act.put, hs], fun t u ht => ?_⟩
  rw [look_cons] at ht
  by_cases e : d = t
  · subst e
    rw [if_pos rfl] at ht
    injection ht with ht
    subst ht
    simp [Act.put, hs, hd]
  · rw [if_neg e] at ht
    have := h.get t u ht
    simp only [Act.put]
    rw [Array.getElem?_setIfInBounds, if_neg e]
    exact this

theorem Env.getD {n t : Nat} {m : Regs} {a : Act} {v : Value} (h : Env n m a) (ht : look m t = some v) : a.tmps.getD t undef = v := by
  have := h.get t v ht
  rw [Array.getD_eq_getD_getElem?, this]
  rfl

/-- The value of an operand. -/
def ev (m : Regs) : Operand → Option Value
  | .tmp t => look m t
  | .const v => some v
  | .global g => some (.pointer (some ⟨g, 0, none⟩))
  | .func f => some (.func (.func f) #[] #[])

theorem Env.eval {n : Nat} {m : Regs} {a : Act} {x : Operand} {v : Value} (h : Env n m a) (hx : ev m x = some v) : a.eval x = v := by
  cases x with
  | tmp t => exact h.getD hx
  | const u => simpa [ev, Act.eval] using hx
  | global g => simpa [ev, Act.eval] using hx
  | func f => simpa [ev, Act.eval] using hx

/-- Is an operation wanted? -/
def wants (ops : Array Oper) (m : Regs) (o : Oper) : Option Bool :=
  match o.guard with
  | none => some true
  | some (j, want) => match (ops[j]?).bind (·.dst) with
    | none => none
    | some t => match look m t with
      | some (.bool b) => some (b == want)
      | some (.tuple _) => some false
      | _ => none

theorem wants_eq {n : Nat} {m : Regs} {a : Act} {ops : Array Oper} {o : Oper} {b : Bool} (h : Env n m a) (hw : wants ops m o = some b) : Region.wanted o (yielded ops a.tmps) = b := by
  unfold wants at hw
  unfold Region.wanted
  split at hw
  · rename_i hg
    simp only [hg]
    injection hw with hw
  · rename_i j want hg
    simp only [hg]
    split at hw
    · cases hw
    · rename_i t ht
      split at hw
      · rename_i c hc
        injection hw with hw
        subst hw
        have := h.get t _ hc
        simp only [yielded, ht, Option.bind_some, this]
        cases c <;> cases want <;> rfl
      · rename_i vs hc
        injection hw with hw
        subst hw
        have := h.get t _ hc
        simp [yielded, ht, Option.bind_some, this]
      · cases hw

/-! ### own blocks -/
inductive Own where
  | box (b : Nat) (c : List Value) (t : TypeId)
  | row (v : Value) (e : TypeId) (size n : Nat) (xs : List Value)

def Own.key : Own → Nat → Prop
  | .box b _ _, x => x = b
  | .row v _ _ _ _, x => v.ownBlock = some x

def Own.holds (w : World) : Own → Prop
  | .box b c t => w.heap[b]? = some (.cells c.toArray t (0, 0))
  | .row v e size n xs => w.ownsRow 0 e size v n xs

theorem Own.key_lt {w : World} {o : Own} (h : o.holds w) {x : Nat} (hx : o.key x) : x < w.heap.size := by
  cases o with
  | box b c t =>
    cases hx
    have h' : w.heap[x]? = some (.cells c.toArray t (0, 0)) := h
    rcases Nat.lt_or_ge x w.heap.size with hl | hl
    · exact hl
    · rw [Array.getElem?_eq_none hl] at h'; cases h'
  | row v e size n xs => exact (World.ownsRow.lt h x hx).2

def keys (L : List Own) (x : Nat) : Prop := ∃ o, o ∈ L ∧ o.key x

theorem keys_nil (x : Nat) : ¬ keys [] x := fun ⟨_, h, _⟩ => by cases h
theorem keys_cons (o : Own) (L : List Own) (x : Nat) : keys (o :: L) x ↔ o.key x ∨ keys L x := by
  constructor
  · rintro ⟨p, h, hk⟩
    cases h with
    | head => exact .inl hk
    | tail _ h => exact .inr ⟨p, h, hk⟩
  · rintro (h | ⟨p, h, hk⟩)
    · exact ⟨o, .head _, h⟩
    · exact ⟨p, .tail _ h, hk⟩
theorem keys_append (L R : List Own) (x : Nat) : keys (L ++ R) x ↔ keys L x ∨ keys R x := by
  constructor
  · rintro ⟨p, h, hk⟩
    rcases List.mem_append.1 h with h | h
    · exact .inl ⟨p, h, hk⟩
    · exact .inr ⟨p, h, hk⟩
  · rintro (⟨p, h, hk⟩ | ⟨p, h, hk⟩)
    · exact ⟨p, List.mem_append.2 (.inl h), hk⟩
    · exact ⟨p, List.mem_append.2 (.inr h), hk⟩

def apart : List Own → Prop
  | [] => True
  | o :: L => (∀ x, o.key x → ¬ keys L x) ∧ apart L

structure Owns (w : World) (L : List Own) : Prop where
  all : ∀ o, o ∈ L → o.holds w
  apart : apart L

theorem Owns.lt {w : World} {L : List Own} (h : Owns w L) {x : Nat} (hx : keys L x) : x < w.heap.size := by
  obtain ⟨o, ho, hk⟩ := hx
  exact Own.key_lt (h.all o ho) hk

/-- The block is as it was: so is what is owned there. -/
theorem Own.same {w w' : World} {o : Own} (h : o.holds w) (hs : ∀ x, o.key x → w'.heap[x]? = w.heap[x]?) : o.holds w' := by
  cases o with
  | box b c t => exact (hs b rfl).trans h
  | row v e size n xs =>
    obtain ⟨h1, h2⟩ := h
    refine ⟨h1, ?_⟩
    rcases h2 with h2 | ⟨g, cap, cur, hv, hg, hh, r⟩
    · exact .inl h2
    · exact .inr ⟨g, cap, cur, hv, hg, (hs g (by simp [Own.key, hv, Value.ownBlock])).trans hh, r⟩

theorem Owns.same {w w' : World} {L : List Own} (h : Owns w L) (hs : ∀ x, keys L x → w'.heap[x]? = w.heap[x]?) : Owns w' L :=
  ⟨fun o ho => Own.same (h.all o ho) fun x hx => hs x ⟨o, ho, hx⟩, h.apart⟩

/-! ### what lasts -/
/-- What was there and is not in M has not turned; M holds no more of what was there. -/
structure Later (w : World) (M : Nat → Prop) (w' : World) (M' : Nat → Prop) : Prop where
  size : w.heap.size ≤ w'.heap.size
  block : ∀ x, x < w.heap.size → ¬ M x → w'.heap[x]? = w.heap[x]?
  mine : ∀ x, x < w.heap.size → M' x → M x

theorem Later.refl (w : World) (M : Nat → Prop) : Later w M w M := ⟨Nat.le_refl _, fun _ _ _ => rfl, fun _ _ h => h⟩

structure Fact where
  holds : World → (Nat → Prop) → Prop
  stable : ∀ {w M w' M'}, holds w M → Later w M w' M' → holds w' M'

/-- How cells tell a datum. -/
structure Rep (α : Type) where
  holds : α → List Value → World → (Nat → Prop) → Prop
  stable : ∀ {x cs w M w' M'}, holds x cs w M → Later w M w' M' → holds x cs w' M'

def Rep.fact {α : Type} (R : Rep α) (x : α) (cs : List Value) : Fact := ⟨R.holds x cs, R.stable⟩

/-! ### the state -/
structure Ctx where
  w0 : World
  X : Nat → Prop
  K0 : Nat → Prop

structure Keep (K : Nat → Prop) (w w' : World) : Prop where
  os : w'.os = w.os
  tape : w'.tape = w.tape
  output : w'.output = w.output
  size : w.heap.size ≤ w'.heap.size
  block : ∀ x, x < w.heap.size → ¬ K x → w'.heap[x]? = w.heap[x]?

theorem Keep.refl (K : Nat → Prop) (w : World) : Keep K w w := ⟨rfl, rfl, rfl, Nat.le_refl _, fun _ _ _ => rfl⟩
theorem Keep.trans {K K' : Nat → Prop} {a b c : World} (h : Keep K a b) (k : Keep K' b c) (hk : ∀ x, x < a.heap.size → K' x → K x) : Keep K a c :=
  ⟨k.os.trans h.os, k.tape.trans h.tape, k.output.trans h.output, Nat.le_trans h.size k.size,
    fun x hx hn => (k.block x (Nat.lt_of_lt_of_le hx h.size) fun h' => hn (hk x hx h')).trans (h.block x hx hn)⟩

structure St (G : Ctx) (n : Nat) (m : Regs) (L : List Own) (F : List Fact) (a : Act) (w : World) : Prop where
  env : Env n m a
  keep : Keep G.K0 G.w0 w
  own : Owns w L
  mine : ∀ x, keys L x → G.K0 x ∨ G.w0.heap.size ≤ x
  x : ∀ x, G.X x → x < G.w0.heap.size ∧ ¬ G.K0 x
  facts : ∀ φ, φ ∈ F → φ.holds w (fun x => G.X x ∨ keys L x)

theorem St.xkeys {G : Ctx} {n : Nat} {m : Regs} {L : List Own} {F : List Fact} {a : Act} {w : World} (s : St G n m L F a w) {x : Nat} (hx : G.X x) : ¬ keys L x := by
  intro hk
  obtain ⟨h1, h2⟩ := s.x x hx
  rcases s.mine x hk with h | h
  · exact h2 h
  · omega

/-! ### what is to be shown -/
abbrev Post := Exit → Act → World → Prop

def RunL (G : Ctx) (n : Nat) (P : Program) (ops : Array Oper) (Q : Post) (rest : List Oper) (m : Regs) (L : List Own) (F : List Fact) : Prop :=
  ∀ a w, St G n m L F a w → wpList P ops Q rest a w
def RunC (G : Ctx) (n : Nat) (P : Program) (c : Code) (Q : Post) (m : Regs) (L : List Own) (F : List Fact) : Prop :=
  ∀ a w, St G n m L F a w → c.wp P Q a w
def Ends (G : Ctx) (n : Nat) (Q : Post) (e : Exit) (m : Regs) (L : List Own) (F : List Fact) : Prop :=
  ∀ a w, St G n m L F a w → Q e a w

section control
variable {G : Ctx} {n : Nat} {P : Program} {Q : Post} {m : Regs} {L : List Own} {F : List Fact}

theorem c_seq {x y : Code} (h : RunC G n P x (Exit.then (fun a w => y.wp P Q a w) Q) m L F) : RunC G n P (.seq x y) Q m L F :=
  fun a w s => wp_seq (h a w s)
theorem c_skip (h : Ends G n Q .normal m L F) : RunC G n P .skip Q m L F := fun a w s => wp_skip (h a w s)
theorem c_ret (h : Ends G n Q .ret m L F) : RunC G n P .ret Q m L F := fun a w s => wp_ret (h a w s)
theorem c_exit {i : Nat} (h : Ends G n Q (.exit i) m L F) : RunC G n P (.exit i) Q m L F := fun a w s => wp_exit (h a w s)
theorem c_block {i : Nat} {c : Code} (h : RunC G n P c (Exit.inBlock i Q) m L F) : RunC G n P (.block i c) Q m L F := fun a w s => wp_block (h a w s)
theorem c_region {i : Nat} {l : List Oper} (h : RunL G n P l.toArray Q l m L F) : RunC G n P (.region i l.toArray false) Q m L F := fun a w s => wp_region_lit (h a w s)
theorem c_cond {c : Operand} {x y : Code} {b : Bool} (hb : ev m c = some (.bool b)) (ht : b = true → RunC G n P x Q m L F) (hf : b = false → RunC G n P y Q m L F) : RunC G n P (.cond c x y) Q m L F := by
  intro a w s
  exact wp_cond_split (s.env.eval hb) (fun h => ht h a w s) (fun h => hf h a w s)
theorem c_true {c : Operand} {x y : Code} {b : Bool} (hb : ev m c = some (.bool b)) (h1 : b = true) (ht : RunC G n P x Q m L F) : RunC G n P (.cond c x y) Q m L F :=
  c_cond hb (fun _ => ht) (fun h => by rw [h1] at h; cases h)
theorem c_false {c : Operand} {x y : Code} {b : Bool} (hb : ev m c = some (.bool b)) (h1 : b = false) (hf : RunC G n P y Q m L F) : RunC G n P (.cond c x y) Q m L F :=
  c_cond hb (fun h => by rw [h1] at h; cases h) (fun _ => hf)

theorem l_nil {ops : Array Oper} (h : Ends G n Q .normal m L F) : RunL G n P ops Q [] m L F := fun a w s => wpList_nil (h a w s)
theorem e_then {c : Code} (h : RunC G n P c Q m L F) : Ends G n (Exit.then (fun a w => c.wp P Q a w) Q) .normal m L F := h
theorem e_then_ret {K : Act → World → Prop} (h : Ends G n Q .ret m L F) : Ends G n (Exit.then K Q) .ret m L F := h
theorem e_then_exit {K : Act → World → Prop} {i : Nat} (h : Ends G n Q (.exit i) m L F) : Ends G n (Exit.then K Q) (.exit i) m L F := h
theorem e_block {i : Nat} (h : Ends G n Q .normal m L F) : Ends G n (Exit.inBlock i Q) .normal m L F := h
theorem e_block_ret {i : Nat} (h : Ends G n Q .ret m L F) : Ends G n (Exit.inBlock i Q) .ret m L F := h
theorem e_block_exit {i : Nat} (h : Ends G n Q .normal m L F) : Ends G n (Exit.inBlock i Q) (.exit i) m L F := fun a w s => by
  show (if i = i then Q .normal a w else Q (.exit i) a w)
  rw [if_pos rfl]; exact h a w s
theorem e_block_past {i j : Nat} (hn : Nat.beq i j = false) (h : Ends G n Q (.exit i) m L F) : Ends G n (Exit.inBlock j Q) (.exit i) m L F := fun a w s => by
  show (if i = j then Q .normal a w else Q (.exit i) a w)
  rw [if_neg (Nat.ne_of_beq_eq_false hn)]; exact h a w s

/-- Less is known. -/
theorem St.sub {G : Ctx} {n : Nat} {m m' : Regs} {L : List Own} {F F' : List Fact} {a : Act} {w : World} (s : St G n m L F a w)
    (hm : ∀ t v, look m' t = some v → look m t = some v) (hF : ∀ φ, φ ∈ F' → φ ∈ F) : St G n m' L F' a w :=
  ⟨⟨s.env.defers, s.env.size, fun t v h => s.env.get t v (hm t v h)⟩, s.keep, s.own, s.mine, s.x, fun φ h => s.facts φ (hF φ h)⟩

end control

theorem sub_nil {m : Regs} : ∀ t v, look [] t = some v → look m t = some v := fun t v h => by simp [look] at h
theorem sub_cons {m m' : Regs} {t : Nat} {v : Value} (h : look m t = some v) (hr : ∀ t v, look m' t = some v → look m t = some v) :
    ∀ s u, look ((t, v) :: m') s = some u → look m s = some u := by
  intro s u hs
  rw [look_cons] at hs
  by_cases e : t = s
  · rw [if_pos e] at hs
    rw [← e, h]; exact hs
  · rw [if_neg e] at hs
    exact hr s u hs
theorem fsub_nil {F : List Fact} : ∀ φ, φ ∈ [] → φ ∈ F := fun _ h => by cases h
theorem fsub_cons {F F' : List Fact} {ψ : Fact} (h : ψ ∈ F) (hr : ∀ φ, φ ∈ F' → φ ∈ F) : ∀ φ, φ ∈ ψ :: F' → φ ∈ F := by
  intro φ hφ
  cases hφ with
  | head => exact h
  | tail _ h' => exact hr φ h'

/-! ### a loop -/
theorem c_loop {G : Ctx} {n : Nat} {P : Program} {Q : Post} {m : Regs} {L : List Own} {F : List Fact} {c : Code} {ι : Type} (mI : ι → Regs) (LI : ι → List Own) (FI : ι → List Fact) (μ : ι → Nat) (i0 : ι)
    (h0 : ∀ a w, St G n m L F a w → St G n (mI i0) (LI i0) (FI i0) a w)
    (round : ∀ i, RunC G n P c (Exit.then (fun a w => ∃ i', μ i' < μ i ∧ St G n (mI i') (LI i') (FI i') a w) Q) (mI i) (LI i) (FI i)) : RunC G n P (.loop c) Q m L F := by
  intro a w s
  classical
  have key : ∀ (a : Act) (w : World), (∃ k, ∃ i, μ i = k ∧ St G n (mI i) (LI i) (FI i) a w) →
      ∃ k, (∃ i, μ i = k ∧ St G n (mI i) (LI i) (FI i) a w) ∧ ∀ j, (∃ i, μ i = j ∧ St G n (mI i) (LI i) (FI i) a w) → k ≤ j := by
    intro a w h
    obtain ⟨k, hk⟩ := h
    induction k using Nat.strongRecOn with
    | _ k ih =>
      by_cases hex : ∃ j, j < k ∧ ∃ i, μ i = j ∧ St G n (mI i) (LI i) (FI i) a w
      · obtain ⟨j, hj, hi⟩ := hex
        exact ih j hj hi
      · refine ⟨k, hk, fun j hj => ?_⟩
        rcases Nat.lt_or_ge j k with h | h
        · exact absurd ⟨j, h, hj⟩ hex
        · exact h
  let μ' : Act → World → Nat := fun a w => if h : ∃ k, ∃ i, μ i = k ∧ St G n (mI i) (LI i) (FI i) a w then Classical.choose (key a w h) else 0
  have hle : ∀ i a w, St G n (mI i) (LI i) (FI i) a w → μ' a w ≤ μ i := by
    intro i a w s
    have h : ∃ k, ∃ i, μ i = k ∧ St G n (mI i) (LI i) (FI i) a w := ⟨μ i, i, rfl, s⟩
    show dite _ _ _ ≤ _
    rw [dif_pos h]
    exact (Classical.choose_spec (key a w h)).2 (μ i) ⟨i, rfl, s⟩
  refine wp_loop (fun a w => ∃ i, St G n (mI i) (LI i) (FI i) a w) μ' ⟨i0, h0 a w s⟩ ?_
  rintro a w ⟨i1, s1⟩
  have h : ∃ k, ∃ i, μ i = k ∧ St G n (mI i) (LI i) (FI i) a w := ⟨μ i1, i1, rfl, s1⟩
  obtain ⟨i, hi, si⟩ := (Classical.choose_spec (key a w h)).1
  have hμ : μ' a w = μ i := by
    show dite _ _ _ = _
    rw [dif_pos h]; exact hi.symm
  refine wp_mono (round i a w si) ?_
  intro e a' w' hq
  cases e with
  | normal =>
    obtain ⟨i', hlt, s'⟩ := hq
    refine ⟨⟨i', s'⟩, ?_⟩
    rw [hμ]
    exact Nat.lt_of_le_of_lt (hle i' a' w' s') hlt
  | _ => exact hq

/-! ### a function's contract -/
/-- A function that is entered when it is called. -/
def Plain (P : Program) (f : FuncId) : Prop := ∃ fn c, P.funcs[f]? = some fn ∧ fn.body = some c ∧ (fn.name == "runtime.NumGoroutine") = false

def Spec (P : Program) (f : FuncId) (args : List Value) (L : List Own) (F : List Fact) (post : Value → List Own → List Fact → Prop) : Prop :=
  Plain P f ∧ ∀ (w : World) (X : Nat → Prop), (∀ x, X x → x < w.heap.size ∧ ¬ keys L x) → Owns w L → (∀ φ, φ ∈ F → φ.holds w (fun x => X x ∨ keys L x)) →
    Calls P f args.toArray w fun e w' => ∃ v L' F', e = .returned v ∧ post v L' F' ∧ Keep (keys L) w w' ∧ Owns w' L' ∧
      (∀ x, keys L' x → keys L x ∨ w.heap.size ≤ x) ∧ (∀ φ, φ ∈ F' → φ.holds w' (fun x => X x ∨ keys L' x))

/-- What the last return must show. -/
def Fin (G : Ctx) (post : Value → List Own → List Fact → Prop) (e : Ending) (w' : World) : Prop :=
  ∃ v L' F', e = .returned v ∧ post v L' F' ∧ Keep G.K0 G.w0 w' ∧ Owns w' L' ∧ (∀ x, keys L' x → G.K0 x ∨ G.w0.heap.size ≤ x) ∧ (∀ φ, φ ∈ F' → φ.holds w' (fun x => G.X x ∨ keys L' x))

/-- The first registers. -/
def regsOf : Nat → List Value → Regs
  | _, [] => []
  | k, v :: r => (k, v) :: regsOf (k + 1) r
theorem look_regsOf (l : List Value) : ∀ (k t : Nat) (v : Value), look (regsOf k l) t = some v → k ≤ t ∧ l[t - k]? = some v := by
  induction l with
  | nil => intro k t v h; simp [regsOf, look] at h
  | cons u r ih =>
    intro k t v h
    rw [regsOf, look_cons] at h
    by_cases e : k = t
    · rw [if_pos e] at h; subst e
      exact ⟨Nat.le_refl _, by simpa using h⟩
    · rw [if_neg e] at h
      obtain ⟨h1, h2⟩ := ih (k + 1) t v h
      refine ⟨by omega, ?_⟩
      have : t - k = (t - (k + 1)) + 1 := by omega
      rw [this, List.getElem?_cons_succ]; exact h2

theorem spec_intro {P : Program} {f : FuncId} {fn : Func} {c : Code} {args : List Value} {L : List Own} {F : List Fact} {post : Value → List Own → List Fact → Prop}
    (hf : P.funcs[f]? = some fn) (hb : fn.body = some c) (hnm : (fn.name == "runtime.NumGoroutine") = false) (hn : args.length ≤ fn.ntmps)
    (h : ∀ G : Ctx, RunC G fn.ntmps P c (bodyPost P fn (Fin G post)) (regsOf 0 args) L F) : Spec P f args L F post := by
  refine ⟨⟨fn, c, hf, hb, hnm⟩, fun w X hX hL hF => ?_⟩
  refine calls_of_wp hf hb ?_
  have := h ⟨w, X, keys L⟩ { tmps := args.toArray ++ Array.replicate (fn.ntmps - args.toArray.size) undef, defers := [] } w
    ⟨⟨rfl, by simp; omega, fun t v ht => by
        obtain ⟨_, h2⟩ := look_regsOf args 0 t v ht
        have hlt : t < args.length := (List.getElem?_eq_some_iff.1 h2).1
        rw [Array.getElem?_append_left (by simpa using hlt)]
        simpa using h2⟩, Keep.refl _ _, hL, fun x hx => .inl hx, hX, hF⟩
  exact this

/-- The return. -/
theorem e_ret {G : Ctx} {n : Nat} {P : Program} {fn : Func} {post : Value → List Own → List Fact → Prop} {m : Regs} {L : List Own} {F : List Fact} (v : Value) (L' : List Own) (F' : List Fact)
    (hr : ∀ a w, St G n m L F a w → (results fn a.tmps).run P w = .ok v w)
    (hL : ∀ o, o ∈ L' → o ∈ L) (hap : ∀ w, Owns w L → apart L') (hF : ∀ φ, φ ∈ F' → φ ∈ F) (hp : post v L' F') : Ends G n (bodyPost P fn (Fin G post)) .ret m L F := by
  intro a w s
  have hk : ∀ x, keys L' x → keys L x := fun x ⟨o, ho, hx⟩ => ⟨o, hL o ho, hx⟩
  refine ⟨s.env.defers, v, hr a w s, v, L', F', rfl, hp, s.keep, ⟨fun o ho => s.own.all o (hL o ho), hap w s.own⟩, fun x hx => s.mine x (hk x hx), fun φ hφ => ?_⟩
  exact φ.stable (s.facts φ (hF φ hφ)) ⟨Nat.le_refl _, fun _ _ _ => rfl, fun x _ hx => hx.imp id (hk x)⟩
theorem e_end {G : Ctx} {n : Nat} {P : Program} {fn : Func} {post : Value → List Own → List Fact → Prop} {m : Regs} {L : List Own} {F : List Fact} (h : Ends G n (bodyPost P fn (Fin G post)) .ret m L F) :
    Ends G n (bodyPost P fn (Fin G post)) .normal m L F := h
end Go.Proofs.YtbllgmcpebifhaaGreatDoor.K
end

section
/- The engine, part b: the rules of operations that leave the world alone. -/
namespace Go.Proofs.YtbllgmcpebifhaaGreatDoor.K
open Go Go.RowKit
set_option linter.all false

/-- The mark of a guard. -/
def wantG (ops : Array Oper) (m : Regs) (g : Option (Nat × Bool)) : Option Bool :=
  match g with
  | none => some true
  | some (j, want) => match (ops[j]?).bind (·.dst) with
    | none => none
    | some t => match look m t with
      | some (.bool b) => some (b == want)
      | some (.tuple _) => some false
      | _ => none

section
variable {G : Ctx} {n : Nat} {P : Program} {ops : Array Oper} {Q : Post} {rest : List Oper} {m : Regs} {L : List Own} {F : List Fact}
variable {d : Nat} {ty : TypeId} {pos : String} {af : Array Edge} {g : Option (Nat × Bool)}

theorem wantG_eq {a : Act} {o : Oper} {b : Bool} (h : Env n m a) (hg : o.guard = g) (hw : wantG ops m g = some b) : Region.wanted o (yielded ops a.tmps) = b :=
  wants_eq h (by unfold wants; rw [hg]; exact hw)

/-- An operation that yields a value and may turn the world. -/
theorem l_step {op : Op} (hw : wantG ops m g = some true)
    (hrun : ∀ a w, St G n m L F a w → ∃ v w', (execOp a.eval ⟨some d, op, ty, pos, af, g⟩).run P w = .ok (.value v) w' ∧ wpList P ops Q rest (a.put (some d) v) w') :
    RunL G n P ops Q (⟨some d, op, ty, pos, af, g⟩ :: rest) m L F := by
  intro a w s
  have hwa := wantG_eq (o := ⟨some d, op, ty, pos, af, g⟩) s.env rfl hw
  refine wpList_step fun K hK => ?_
  rw [if_pos hwa]
  obtain ⟨v, w', hr, hn⟩ := hrun a w s
  unfold Oper.wp
  rw [hr, Oper.upon_value]
  exact hK _ _ hn

theorem St.put {a : Act} {w : World} (s : St G n m L F a w) (hd : Nat.blt d n = true) (v : Value) : St G n ((d, v) :: m) L F (a.put (some d) v) w :=
  ⟨s.env.put (Nat.le_of_ble_eq_true hd) v, s.keep, s.own, s.mine, s.x, s.facts⟩

theorem l_val {op : Op} (v : Value) (hw : wantG ops m g = some true) (hd : Nat.blt d n = true)
    (hrun : ∀ a w, St G n m L F a w → (execOp a.eval ⟨some d, op, ty, pos, af, g⟩).run P w = .ok (.value v) w)
    (h : RunL G n P ops Q rest ((d, v) :: m) L F) : RunL G n P ops Q (⟨some d, op, ty, pos, af, g⟩ :: rest) m L F :=
  l_step hw fun a w s => ⟨v, w, hrun a w s, h _ _ (s.put hd v)⟩

/-- A guarded operation that is not wanted. -/
theorem l_unwanted {op : Op} (hw : wantG ops m g = some false) (hd : Nat.blt d n = true) (h : RunL G n P ops Q rest ((d, undef) :: m) L F) :
    RunL G n P ops Q (⟨some d, op, ty, pos, af, g⟩ :: rest) m L F := by
  intro a w s
  have hwa := wantG_eq (o := ⟨some d, op, ty, pos, af, g⟩) s.env rfl hw
  refine wpList_step fun K hK => ?_
  rw [hwa]
  exact hK _ _ (h _ _ (s.put hd undef))

/-- A truth in a register is known from here on. -/
theorem l_know {t : Nat} {b : Bool} (c : Bool) (ht : look m t = some (.bool b)) (hb : b = c) (h : RunL G n P ops Q rest ((t, .bool c) :: m) L F) : RunL G n P ops Q rest m L F := by
  subst hb
  intro a w s
  refine h a w (s.sub (fun s u hs => ?_) fun _ h => h)
  rw [look_cons] at hs
  by_cases e : t = s
  · rw [if_pos e] at hs; rw [← e, ht]; exact hs
  · rw [if_neg e] at hs; exact hs
theorem l_move {x : Operand} {v : Value} (hw : wantG ops m g = some true) (hx : ev m x = some v) (hd : Nat.blt d n = true)
    (h : RunL G n P ops Q rest ((d, v) :: m) L F) : RunL G n P ops Q (⟨some d, .move x, ty, pos, af, g⟩ :: rest) m L F :=
  l_val v hw hd (fun a w s => by simp only [execOp, s.env.eval hx]; rfl) h
theorem l_assign {x : Operand} {v : Value} (hw : wantG ops m g = some true) (hx : ev m x = some v) (hd : Nat.blt d n = true)
    (h : RunL G n P ops Q rest ((d, v) :: m) L F) : RunL G n P ops Q (⟨some d, .assign x, ty, pos, af, g⟩ :: rest) m L F :=
  l_val v hw hd (fun a w s => by simp only [execOp, s.env.eval hx]; rfl) h
theorem l_pick_true {c x y : Operand} {v : Value} (hw : wantG ops m g = some true) (hc : ev m c = some (.bool true)) (hx : ev m x = some v) (hd : Nat.blt d n = true)
    (h : RunL G n P ops Q rest ((d, v) :: m) L F) : RunL G n P ops Q (⟨some d, .pick c x y, ty, pos, af, g⟩ :: rest) m L F :=
  l_val v hw hd (fun a w s => by simp [execOp, s.env.eval hx, s.env.eval hc, asBool]) h
theorem l_pick_false {c x y : Operand} {v : Value} (hw : wantG ops m g = some true) (hc : ev m c = some (.bool false)) (hy : ev m y = some v) (hd : Nat.blt d n = true)
    (h : RunL G n P ops Q rest ((d, v) :: m) L F) : RunL G n P ops Q (⟨some d, .pick c x y, ty, pos, af, g⟩ :: rest) m L F :=
  l_val v hw hd (fun a w s => by simp [execOp, s.env.eval hy, s.env.eval hc, asBool]) h

/-- A binary operation. -/
theorem l_bin {op : BinOp} {t yt : TypeId} {x y : Operand} {vx vy v : Value} (hw : wantG ops m g = some true) (hx : ev m x = some vx) (hy : ev m y = some vy) (hd : Nat.blt d n = true)
    (hg : ∀ w, (eqGuard op t x y vx vy).run P w = .ok () w) (hr : ∀ w, (binOp op t vx vy).run P w = .ok v w)
    (h : RunL G n P ops Q rest ((d, v) :: m) L F) : RunL G n P ops Q (⟨some d, .binOp op t x y yt, ty, pos, af, g⟩ :: rest) m L F :=
  l_val v hw hd (fun a w s => by simp [execOp, s.env.eval hx, s.env.eval hy, hg, hr]) h

theorem guard_int {op : BinOp} {t : TypeId} {x y : Operand} {k k' : IntKind} {a b : Int} (w : World) : (eqGuard op t x y (.int k a) (.int k' b)).run P w = .ok () w := by
  unfold eqGuard; split <;> rfl
theorem guard_bool {op : BinOp} {t : TypeId} {x y : Operand} {a b : Bool} (w : World) : (eqGuard op t x y (.bool a) (.bool b)).run P w = .ok () w := by
  unfold eqGuard; split <;> rfl
theorem guard_str {op : BinOp} {t : TypeId} {x y : Operand} {a b : ByteArray} (w : World) : (eqGuard op t x y (.string a) (.string b)).run P w = .ok () w := by
  unfold eqGuard; split <;> rfl

theorem l_add {t yt : TypeId} {x y : Operand} {k : IntKind} {p q z : Int} (hw : wantG ops m g = some true) (hx : ev m x = some (.int k p)) (hy : ev m y = some (.int k q)) (hd : Nat.blt d n = true)
    (hz : k.wrap (p + q) = z) (h : RunL G n P ops Q rest ((d, .int k z) :: m) L F) : RunL G n P ops Q (⟨some d, .binOp .add t x y yt, ty, pos, af, g⟩ :: rest) m L F :=
  l_bin hw hx hy hd (fun w => guard_int w) (fun w => by simp [binOp, Op.intArith, hz]) h
theorem l_sub {t yt : TypeId} {x y : Operand} {k : IntKind} {p q z : Int} (hw : wantG ops m g = some true) (hx : ev m x = some (.int k p)) (hy : ev m y = some (.int k q)) (hd : Nat.blt d n = true)
    (hz : k.wrap (p - q) = z) (h : RunL G n P ops Q rest ((d, .int k z) :: m) L F) : RunL G n P ops Q (⟨some d, .binOp .sub t x y yt, ty, pos, af, g⟩ :: rest) m L F :=
  l_bin hw hx hy hd (fun w => guard_int w) (fun w => by simp [binOp, Op.intArith, hz]) h
theorem l_mul {t yt : TypeId} {x y : Operand} {k : IntKind} {p q z : Int} (hw : wantG ops m g = some true) (hx : ev m x = some (.int k p)) (hy : ev m y = some (.int k q)) (hd : Nat.blt d n = true)
    (hz : k.wrap (p * q) = z) (h : RunL G n P ops Q rest ((d, .int k z) :: m) L F) : RunL G n P ops Q (⟨some d, .binOp .mul t x y yt, ty, pos, af, g⟩ :: rest) m L F :=
  l_bin hw hx hy hd (fun w => guard_int w) (fun w => by simp [binOp, Op.intArith, hz]) h
theorem l_quo {t yt : TypeId} {x y : Operand} {k : IntKind} {p q z : Int} (hw : wantG ops m g = some true) (hx : ev m x = some (.int k p)) (hy : ev m y = some (.int k q)) (hd : Nat.blt d n = true) (h0 : q ≠ 0)
    (hz : k.wrap (p.tdiv q) = z) (h : RunL G n P ops Q rest ((d, .int k z) :: m) L F) : RunL G n P ops Q (⟨some d, .binOp .quo t x y yt, ty, pos, af, g⟩ :: rest) m L F :=
  l_bin hw hx hy hd (fun w => guard_int w) (fun w => by simp [binOp, Op.intDiv, hz, h0]) h
theorem l_rem {t yt : TypeId} {x y : Operand} {k : IntKind} {p q z : Int} (hw : wantG ops m g = some true) (hx : ev m x = some (.int k p)) (hy : ev m y = some (.int k q)) (hd : Nat.blt d n = true) (h0 : q ≠ 0)
    (hz : p.tmod q = z) (h : RunL G n P ops Q rest ((d, .int k z) :: m) L F) : RunL G n P ops Q (⟨some d, .binOp .rem t x y yt, ty, pos, af, g⟩ :: rest) m L F :=
  l_bin hw hx hy hd (fun w => guard_int w) (fun w => by simp [binOp, Op.intDiv, hz, h0]) h
theorem l_bits {op : BinOp} {t yt : TypeId} {x y : Operand} {k : IntKind} {p q z : Int} (hop : op = .and ∨ op = .or ∨ op = .xor ∨ op = .andNot) (hw : wantG ops m g = some true) (hx : ev m x = some (.int k p)) (hy : ev m y = some (.int k q)) (hd : Nat.blt d n = true)
    (hz : bits op k p q = z) (h : RunL G n P ops Q rest ((d, .int k z) :: m) L F) : RunL G n P ops Q (⟨some d, .binOp op t x y yt, ty, pos, af, g⟩ :: rest) m L F :=
  l_bin hw hx hy hd (fun w => guard_int w) (fun w => by rcases hop with rfl | rfl | rfl | rfl <;> (subst hz; simp [binOp, go_sem])) h
theorem l_shl {t yt : TypeId} {x y : Operand} {k k' : IntKind} {p q z : Int} (hw : wantG ops m g = some true) (hx : ev m x = some (.int k p)) (hy : ev m y = some (.int k' q)) (hd : Nat.blt d n = true) (h0 : 0 ≤ q)
    (hz : k.wrap (p * 2 ^ (min q.toNat k.bits)) = z) (h : RunL G n P ops Q rest ((d, .int k z) :: m) L F) : RunL G n P ops Q (⟨some d, .binOp .shl t x y yt, ty, pos, af, g⟩ :: rest) m L F :=
  l_bin hw hx hy hd (fun w => guard_int w) (fun w => by subst hz; have : ¬ q < 0 := by omega
                                                        simp [binOp, Op.shift, this]) h
theorem l_shr {t yt : TypeId} {x y : Operand} {k k' : IntKind} {p q z : Int} (hw : wantG ops m g = some true) (hx : ev m x = some (.int k p)) (hy : ev m y = some (.int k' q)) (hd : Nat.blt d n = true) (h0 : 0 ≤ q)
    (hz : p.fdiv (2 ^ (min q.toNat k.bits)) = z) (h : RunL G n P ops Q rest ((d, .int k z) :: m) L F) : RunL G n P ops Q (⟨some d, .binOp .shr t x y yt, ty, pos, af, g⟩ :: rest) m L F :=
  l_bin hw hx hy hd (fun w => guard_int w) (fun w => by subst hz; have : ¬ q < 0 := by omega
                                                        simp [binOp, Op.shift, this]) h

def cmpI : BinOp → Int → Int → Bool
  | .eql, x, y => x == y
  | .neq, x, y => x != y
  | .lss, x, y => decide (x < y)
  | .leq, x, y => decide (x ≤ y)
  | .gtr, x, y => decide (x > y)
  | .geq, x, y => decide (x ≥ y)
  | _, _, _ => false
def isCmp : BinOp → Bool
  | .eql | .neq | .lss | .leq | .gtr | .geq => true
  | _ => false
theorem l_cmp {op : BinOp} {t yt : TypeId} {x y : Operand} {k : IntKind} {p q : Int} {b : Bool} (hop : isCmp op = true) (hw : wantG ops m g = some true) (hx : ev m x = some (.int k p)) (hy : ev m y = some (.int k q)) (hd : Nat.blt d n = true)
    (hb : cmpI op p q = b) (h : RunL G n P ops Q rest ((d, .bool b) :: m) L F) : RunL G n P ops Q (⟨some d, .binOp op t x y yt, ty, pos, af, g⟩ :: rest) m L F :=
  l_bin hw hx hy hd (fun w => guard_int w) (fun w => by subst hb; cases op <;> simp_all [isCmp, binOp, Op.intCmp, cmpI]) h
theorem l_eqStr {t yt : TypeId} {x y : Operand} {p q : ByteArray} {b : Bool} (hw : wantG ops m g = some true) (hx : ev m x = some (.string p)) (hy : ev m y = some (.string q)) (hd : Nat.blt d n = true)
    (hb : (p.toList == q.toList) = b) (h : RunL G n P ops Q rest ((d, .bool b) :: m) L F) : RunL G n P ops Q (⟨some d, .binOp .eql t x y yt, ty, pos, af, g⟩ :: rest) m L F :=
  l_bin hw hx hy hd (fun w => guard_str w) (fun w => by subst hb; simp [binOp, Op.stringOp]) h
theorem l_neStr {t yt : TypeId} {x y : Operand} {p q : ByteArray} {b : Bool} (hw : wantG ops m g = some true) (hx : ev m x = some (.string p)) (hy : ev m y = some (.string q)) (hd : Nat.blt d n = true)
    (hb : (!(p.toList == q.toList)) = b) (h : RunL G n P ops Q rest ((d, .bool b) :: m) L F) : RunL G n P ops Q (⟨some d, .binOp .neq t x y yt, ty, pos, af, g⟩ :: rest) m L F :=
  l_bin hw hx hy hd (fun w => guard_str w) (fun w => by subst hb; simp [binOp, Op.stringOp]) h
theorem l_cat {t yt : TypeId} {x y : Operand} {p q : ByteArray} (hw : wantG ops m g = some true) (hx : ev m x = some (.string p)) (hy : ev m y = some (.string q)) (hd : Nat.blt d n = true) (hle : p.size + q.size ≤ 9223372036854775807)
    (h : RunL G n P ops Q rest ((d, .string (p ++ q)) :: m) L F) : RunL G n P ops Q (⟨some d, .binOp .add t x y yt, ty, pos, af, g⟩ :: rest) m L F :=
  l_bin hw hx hy hd (fun w => guard_str w) (fun w => by have : ((p.size : Int) + (q.size : Int)) ≤ 9223372036854775807 := by omega
                                                        simp [binOp, Op.stringOp, this]) h
theorem run_equalIn_bool {t : TypeId} (e : Nat) (a b : Bool) (ht : P.underlying t = some .bool) (w : World) : (Op.equalIn (e + 1) t (.bool a) (.bool b)).run P w = .ok (a == b) w := by
  simp [Op.equalIn, run_underlying ht]
theorem run_eql_bool {t : TypeId} (a b : Bool) (ht : P.underlying t = some .bool) (w : World) : (binOp .eql t (.bool a) (.bool b)).run P w = .ok (.bool (a == b)) w := by
  simp only [binOp]
  simp [Op.equal, Op.maxDepth, run_equalIn_bool 9999 a b ht w]
theorem run_neq_bool {t : TypeId} (a b : Bool) (ht : P.underlying t = some .bool) (w : World) : (binOp .neq t (.bool a) (.bool b)).run P w = .ok (.bool (!(a == b))) w := by
  simp only [binOp]
  simp [Op.equal, Op.maxDepth, run_equalIn_bool 9999 a b ht w]
theorem l_eqBool {t yt : TypeId} {x y : Operand} {p q b : Bool} (ht : P.underlying t = some .bool) (hw : wantG ops m g = some true) (hx : ev m x = some (.bool p)) (hy : ev m y = some (.bool q)) (hd : Nat.blt d n = true)
    (hb : (p == q) = b) (h : RunL G n P ops Q rest ((d, .bool b) :: m) L F) : RunL G n P ops Q (⟨some d, .binOp .eql t x y yt, ty, pos, af, g⟩ :: rest) m L F :=
  l_bin hw hx hy hd (fun w => guard_bool w) (fun w => by subst hb; exact run_eql_bool p q ht w) h
theorem l_neBool {t yt : TypeId} {x y : Operand} {p q b : Bool} (ht : P.underlying t = some .bool) (hw : wantG ops m g = some true) (hx : ev m x = some (.bool p)) (hy : ev m y = some (.bool q)) (hd : Nat.blt d n = true)
    (hb : (!(p == q)) = b) (h : RunL G n P ops Q rest ((d, .bool b) :: m) L F) : RunL G n P ops Q (⟨some d, .binOp .neq t x y yt, ty, pos, af, g⟩ :: rest) m L F :=
  l_bin hw hx hy hd (fun w => guard_bool w) (fun w => by subst hb; exact run_neq_bool p q ht w) h

theorem l_not {t : TypeId} {x : Operand} {p b : Bool} (hw : wantG ops m g = some true) (hx : ev m x = some (.bool p)) (hd : Nat.blt d n = true)
    (hb : (!p) = b) (h : RunL G n P ops Q rest ((d, .bool b) :: m) L F) : RunL G n P ops Q (⟨some d, .unOp .not t x, ty, pos, af, g⟩ :: rest) m L F :=
  l_val (.bool b) hw hd (fun a w s => by subst hb; simp [execOp, s.env.eval hx, Op.unary]) h
theorem l_neg {t : TypeId} {x : Operand} {k : IntKind} {p z : Int} (hw : wantG ops m g = some true) (hx : ev m x = some (.int k p)) (hd : Nat.blt d n = true)
    (hz : k.wrap (0 - p) = z) (h : RunL G n P ops Q rest ((d, .int k z) :: m) L F) : RunL G n P ops Q (⟨some d, .unOp .neg t x, ty, pos, af, g⟩ :: rest) m L F :=
  l_val (.int k z) hw hd (fun a w s => by subst hz; simp [execOp, s.env.eval hx, Op.unary, Op.intArith]) h
theorem l_conv {src dst : TypeId} {x : Operand} {j k : IntKind} {p z : Int} (hs : (P.underlying src).isSome = true) (ht : P.underlying dst = some (.int k)) (hw : wantG ops m g = some true) (hx : ev m x = some (.int j p)) (hd : Nat.blt d n = true)
    (hz : k.wrap p = z) (h : RunL G n P ops Q rest ((d, .int k z) :: m) L F) : RunL G n P ops Q (⟨some d, .convert src dst x, ty, pos, af, g⟩ :: rest) m L F :=
  l_val (.int k z) hw hd (fun a w s => by
    obtain ⟨u, hu⟩ := Option.isSome_iff_exists.1 hs
    subst hz
    cases u <;> simp [execOp, s.env.eval hx, convert, run_underlying hu, run_underlying ht, Conv.intToInt]) h
theorem l_extract {x : Operand} {i : Nat} {vs : Array Value} {v : Value} (hw : wantG ops m g = some true) (hx : ev m x = some (.tuple vs)) (hv : vs[i]? = some v) (hd : Nat.blt d n = true)
    (h : RunL G n P ops Q rest ((d, v) :: m) L F) : RunL G n P ops Q (⟨some d, .extract x i, ty, pos, af, g⟩ :: rest) m L F :=
  l_val v hw hd (fun a w s => by simp [execOp, s.env.eval hx, Instr.extract, hv]) h
theorem l_nilCheck {x : Operand} {ad : Addr} (hw : wantG ops m g = some true) (hx : ev m x = some (.pointer (some ad))) (hd : Nat.blt d n = true)
    (h : RunL G n P ops Q rest ((d, .pointer (some ad)) :: m) L F) : RunL G n P ops Q (⟨some d, .nilCheck x, ty, pos, af, g⟩ :: rest) m L F :=
  l_val _ hw hd (fun a w s => by simp [execOp, s.env.eval hx]) h
theorem l_lenStr {t : TypeId} {x : Operand} {p : ByteArray} (ht : P.underlying t = some .string) (hw : wantG ops m g = some true) (hx : ev m x = some (.string p)) (hd : Nat.blt d n = true)
    (h : RunL G n P ops Q rest ((d, .int .i64 (p.size : Int)) :: m) L F) : RunL G n P ops Q (⟨some d, .call ⟨.builtin .len, #[x], #[t]⟩, ty, pos, af, g⟩ :: rest) m L F :=
  l_val _ hw hd (fun a w s => by simp [execOp, s.env.eval hx, resolve, invoke, builtin, Builtin.len_, run_underlying ht, goInt]) h
theorem l_indexStr {t : TypeId} {x i : Operand} {p : ByteArray} {k : IntKind} {q : Int} {b : UInt8} (ht : P.underlying t = some .string) (hw : wantG ops m g = some true) (hx : ev m x = some (.string p)) (hi : ev m i = some (.int k q)) (hd : Nat.blt d n = true)
    (h0 : 0 ≤ q) (hb : p[q.toNat]? = some b) (h : RunL G n P ops Q rest ((d, .int .u8 (b.toNat : Int)) :: m) L F) : RunL G n P ops Q (⟨some d, .index t x i, ty, pos, af, g⟩ :: rest) m L F :=
  l_val _ hw hd (fun a w s => by simp [execOp, s.env.eval hx, s.env.eval hi, Instr.index, asIntOf, run_underlying ht, h0, hb]) h
end
end Go.Proofs.YtbllgmcpebifhaaGreatDoor.K
end

section
/- The engine, part c: boxes, calls, what is told of lists. -/
namespace Go.Proofs.YtbllgmcpebifhaaGreatDoor.K
open Go Go.RowKit
set_option linter.all false

/-! ### the program's types -/
class Und (P : Program) (t : TypeId) (D : outParam TypeDesc) : Prop where
  out : P.underlying t = some D
class Inf (P : Program) (t : TypeId) (z : outParam Value) (size bytes : outParam Nat) : Prop where
  out : (P.info? t).map (fun i => (i.zero, i.size, i.bytes)) = some (some z, size, bytes)

theorem Inf.parts {P : Program} {t : TypeId} {z : Value} {size bytes : Nat} (h : Inf P t z size bytes) : ∃ i, P.info? t = some i ∧ i.zero = some z ∧ i.size = size ∧ i.bytes = bytes :=
  info_parts h.out

theorem run_sizeOf {P : Program} {t : TypeId} {z : Value} {size bytes : Nat} (h : Inf P t z size bytes) (w : World) : (sizeOf t).run P w = .ok size w := by
  obtain ⟨i, h1, h2, h3, h4⟩ := h.parts
  simp [sizeOf, typeInfo, h1, h3]
theorem run_zero {P : Program} {t : TypeId} {z : Value} {size bytes : Nat} (h : Inf P t z size bytes) (w : World) : (zeroValue t).run P w = .ok z w := by
  obtain ⟨i, h1, h2, h3, h4⟩ := h.parts
  simp [zeroValue, typeInfo, h1, h2]

def aggD : TypeDesc → Bool
  | .struct _ => true
  | .array _ _ => true
  | _ => false
theorem run_isAgg {P : Program} {t : TypeId} {D : TypeDesc} (h : Und P t D) (w : World) : (isAgg t).run P w = .ok (aggD D) w := by
  unfold isAgg
  rw [Sem.run_bind, run_underlying h.out w]
  cases D <;> rfl

/-! ### lists of cells, told by constructors -/
inductive Fst : Nat → List Value → List Value → Prop
  | nil {c : List Value} : Fst 0 c []
  | cons {k : Nat} {x : Value} {r cs : List Value} : Fst k r cs → Fst (k + 1) (x :: r) (x :: cs)
inductive TakeAt : List Value → Nat → Nat → List Value → Prop
  | here {c : List Value} {k : Nat} {cs : List Value} : Fst k c cs → TakeAt c 0 k cs
  | next {x : Value} {r : List Value} {o k : Nat} {cs : List Value} : TakeAt r o k cs → TakeAt (x :: r) (o + 1) k cs
inductive Pre : List Value → List Value → List Value → Prop
  | nil {c : List Value} : Pre [] c c
  | cons {v x : Value} {vs r r' : List Value} : Pre vs r r' → Pre (v :: vs) (x :: r) (v :: r')
inductive PutAt : List Value → Nat → List Value → List Value → Prop
  | here {c vs c' : List Value} : Pre vs c c' → PutAt c 0 vs c'
  | next {x : Value} {r r' : List Value} {o : Nat} {vs : List Value} : PutAt r o vs r' → PutAt (x :: r) (o + 1) vs (x :: r')
inductive Cells : Value → List Value → Prop
  | agg {vs : List Value} : Cells (.agg vs.toArray) vs
  | bool {b : Bool} : Cells (.bool b) [.bool b]
  | int {k : IntKind} {x : Int} : Cells (.int k x) [.int k x]
  | float {k : FloatKind} {x : Nat} : Cells (.float k x) [.float k x]
  | complex {k : FloatKind} {x y : Nat} : Cells (.complex k x y) [.complex k x y]
  | string {s : ByteArray} : Cells (.string s) [.string s]
  | pointer {a : Option Addr} : Cells (.pointer a) [.pointer a]
  | slice {a : Option Addr} {l c : Nat} : Cells (.slice a l c) [.slice a l c]
  | func {f : Fn} {x y : Array Value} : Cells (.func f x y) [.func f x y]
  | nilFunc : Cells .nilFunc [.nilFunc]
  | nilIface : Cells .nilIface [.nilIface]
  | iface {t : TypeId} {v : Value} : Cells (.iface t v) [.iface t v]
/-- A slice in a variable. -/
theorem Cells.ofSlice {v : Value} (h : ∃ a l c, v = .slice a l c) : Cells v [v] := by
  obtain ⟨a, l, c, rfl⟩ := h
  exact .slice

theorem Cells.eq {v : Value} {vs : List Value} (h : Cells v vs) : v.cells.toList = vs := by cases h <;> rfl
theorem Cells.size {v : Value} {vs : List Value} (h : Cells v vs) : v.cells.size = vs.length := by rw [← h.eq]; simp

theorem Fst.eq {k : Nat} {c cs : List Value} (h : Fst k c cs) : cs = c.take k ∧ k ≤ c.length := by
  induction h with
  | nil => exact ⟨rfl, Nat.zero_le _⟩
  | cons _ ih => exact ⟨by rw [List.take_succ_cons, ← ih.1], by simp; omega⟩
theorem TakeAt.eq {c : List Value} {o k : Nat} {cs : List Value} (h : TakeAt c o k cs) : cs = (c.drop o).take k ∧ o + k ≤ c.length := by
  induction h with
  | here h => have := h.eq; exact ⟨by simpa using this.1, by omega⟩
  | next _ ih => exact ⟨by rw [List.drop_succ_cons, ← ih.1], by simp; omega⟩
theorem Pre.eq {vs c c' : List Value} (h : Pre vs c c') : c' = vs ++ c.drop vs.length ∧ vs.length ≤ c.length := by
  induction h with
  | nil => exact ⟨rfl, Nat.zero_le _⟩
  | cons _ ih => exact ⟨by rw [List.length_cons, List.drop_succ_cons, List.cons_append, ← ih.1], by simp; exact ih.2⟩
theorem PutAt.eq {c : List Value} {o : Nat} {vs c' : List Value} (h : PutAt c o vs c') : c' = c.take o ++ vs ++ c.drop (o + vs.length) ∧ o + vs.length ≤ c.length := by
  induction h with
  | here h => have := h.eq; exact ⟨by simpa using this.1, by omega⟩
  | next _ ih =>
    refine ⟨?_, by simp; omega⟩
    rw [ih.1, List.take_succ_cons]
    have : ∀ k o : Nat, o + 1 + k = (o + k) + 1 := by omega
    rw [this, List.drop_succ_cons]
    rfl

/-- A small sum, said by a numeral. -/
inductive PlusN : Nat → Nat → Nat → Prop
  | zero {k : Nat} : PlusN 0 k k
  | zero' {k : Nat} : PlusN k 0 k
  | p1_1 : PlusN 1 1 2
  | p1_2 : PlusN 1 2 3
  | p1_3 : PlusN 1 3 4
  | p1_4 : PlusN 1 4 5
  | p1_5 : PlusN 1 5 6
  | p1_6 : PlusN 1 6 7
  | p1_7 : PlusN 1 7 8
  | p1_8 : PlusN 1 8 9
  | p2_1 : PlusN 2 1 3
  | p2_2 : PlusN 2 2 4
  | p2_3 : PlusN 2 3 5
  | p2_4 : PlusN 2 4 6
  | p2_5 : PlusN 2 5 7
  | p2_6 : PlusN 2 6 8
  | p2_7 : PlusN 2 7 9
  | p2_8 : PlusN 2 8 10
  | p3_1 : PlusN 3 1 4
  | p3_2 : PlusN 3 2 5
  | p3_3 : PlusN 3 3 6
  | p3_4 : PlusN 3 4 7
  | p3_5 : PlusN 3 5 8
  | p3_6 : PlusN 3 6 9
  | p3_7 : PlusN 3 7 10
  | p3_8 : PlusN 3 8 11
  | p4_1 : PlusN 4 1 5
  | p4_2 : PlusN 4 2 6
  | p4_3 : PlusN 4 3 7
  | p4_4 : PlusN 4 4 8
  | p4_5 : PlusN 4 5 9
  | p4_6 : PlusN 4 6 10
  | p4_7 : PlusN 4 7 11
  | p4_8 : PlusN 4 8 12
  | p5_1 : PlusN 5 1 6
  | p5_2 : PlusN 5 2 7
  | p5_3 : PlusN 5 3 8
  | p5_4 : PlusN 5 4 9
  | p5_5 : PlusN 5 5 10
  | p5_6 : PlusN 5 6 11
  | p5_7 : PlusN 5 7 12
  | p5_8 : PlusN 5 8 13
  | p6_1 : PlusN 6 1 7
  | p6_2 : PlusN 6 2 8
  | p6_3 : PlusN 6 3 9
  | p6_4 : PlusN 6 4 10
  | p6_5 : PlusN 6 5 11
  | p6_6 : PlusN 6 6 12
  | p6_7 : PlusN 6 7 13
  | p6_8 : PlusN 6 8 14
  | p7_1 : PlusN 7 1 8
  | p7_2 : PlusN 7 2 9
  | p7_3 : PlusN 7 3 10
  | p7_4 : PlusN 7 4 11
  | p7_5 : PlusN 7 5 12
  | p7_6 : PlusN 7 6 13
  | p7_7 : PlusN 7 7 14
  | p7_8 : PlusN 7 8 15
  | p8_1 : PlusN 8 1 9
  | p8_2 : PlusN 8 2 10
  | p8_3 : PlusN 8 3 11
  | p8_4 : PlusN 8 4 12
  | p8_5 : PlusN 8 5 13
  | p8_6 : PlusN 8 6 14
  | p8_7 : PlusN 8 7 15
  | p8_8 : PlusN 8 8 16
theorem PlusN.eq {a b c : Nat} (h : PlusN a b c) : c = a + b := by cases h <;> simp

/-! ### what is owned, changed -/
inductive Upd : List Own → Own → Own → List Own → Prop
  | head {o o' : Own} {L : List Own} : Upd (o :: L) o o' (o' :: L)
  | tail {o o' p : Own} {L L' : List Own} : Upd L o o' L' → Upd (p :: L) o o' (p :: L')
inductive Era : List Own → Own → List Own → Prop
  | head {o : Own} {L : List Own} : Era (o :: L) o L
  | tail {o p : Own} {L L' : List Own} : Era L o L' → Era (p :: L) o (p :: L')

theorem Upd.mem {L L' : List Own} {o o' : Own} (h : Upd L o o' L') : o ∈ L := by
  induction h with
  | head => exact .head _
  | tail _ ih => exact .tail _ ih
theorem Upd.keys {L L' : List Own} {o o' : Own} (h : Upd L o o' L') {x : Nat} (hx : K.keys L' x) : o'.key x ∨ K.keys L x := by
  induction h with
  | head =>
    rcases (keys_cons _ _ _).1 hx with h | h
    · exact .inl h
    · exact .inr ((keys_cons _ _ _).2 (.inr h))
  | tail _ ih =>
    rcases (keys_cons _ _ _).1 hx with h | h
    · exact .inr ((keys_cons _ _ _).2 (.inl h))
    · rcases ih h with h | h
      · exact .inl h
      · exact .inr ((keys_cons _ _ _).2 (.inr h))
theorem Era.mem {L L' : List Own} {o : Own} (h : Era L o L') : o ∈ L := by
  induction h with
  | head => exact .head _
  | tail _ ih => exact .tail _ ih
theorem Era.sub {L L' : List Own} {o : Own} (h : Era L o L') {p : Own} (hp : p ∈ L') : p ∈ L := by
  induction h with
  | head => exact .tail _ hp
  | tail _ ih =>
    cases hp with
    | head => exact .head _
    | tail _ h => exact .tail _ (ih h)
theorem Era.keys {L L' : List Own} {o : Own} (h : Era L o L') {x : Nat} (hx : K.keys L' x) : K.keys L x := by
  obtain ⟨p, hp, hk⟩ := hx
  exact ⟨p, h.sub hp, hk⟩
theorem Era.apart {L L' : List Own} {o : Own} (h : Era L o L') (ha : K.apart L) : K.apart L' ∧ ∀ x, o.key x → ¬ K.keys L' x := by
  induction h with
  | head => exact ⟨ha.2, ha.1⟩
  | tail h ih =>
    obtain ⟨i1, i2⟩ := ih ha.2
    refine ⟨⟨fun x hx hk => ha.1 x hx (h.keys hk), i1⟩, fun x hx hk => ?_⟩
    rcases (keys_cons _ _ _).1 hk with h' | h'
    · exact ha.1 x h' ⟨_, h.mem, hx⟩
    · exact i2 x hx h'
theorem Era.split {L L' : List Own} {o : Own} (h : Era L o L') {x : Nat} (hx : K.keys L x) : o.key x ∨ K.keys L' x := by
  induction h with
  | head => exact (keys_cons _ _ _).1 hx
  | tail _ ih =>
    rcases (keys_cons _ _ _).1 hx with h' | h'
    · exact .inr ((keys_cons _ _ _).2 (.inl h'))
    · exact (ih h').imp id fun h => (keys_cons _ _ _).2 (.inr h)

theorem Upd.owns {w w' : World} {L L' : List Own} {o o' : Own} (h : Upd L o o' L') (hL : Owns w L) (hk : Keep o.key w w') (ho : o'.holds w') (hn : ∀ x, o'.key x → o.key x ∨ w.heap.size ≤ x) : Owns w' L' := by
  induction h with
  | @head o o' L =>
    refine ⟨fun p hp => ?_, ⟨fun x hx hkx => ?_, hL.apart.2⟩⟩
    · cases hp with
      | head => exact ho
      | tail _ hp =>
        refine Own.same (hL.all p (.tail _ hp)) fun x hx => hk.block x (Own.key_lt (hL.all p (.tail _ hp)) hx) fun hox => hL.apart.1 x hox ⟨p, hp, hx⟩
    · rcases hn x hx with h | h
      · exact hL.apart.1 x h hkx
      · obtain ⟨p, hp, hpx⟩ := hkx
        have := Own.key_lt (hL.all p (.tail _ hp)) hpx
        omega
  | @tail o o' p L L' hu ih =>
    have hL2 : Owns w L := ⟨fun q hq => hL.all q (.tail _ hq), hL.apart.2⟩
    have i := ih hL2 hk ho hn
    refine ⟨fun q hq => ?_, ⟨fun x hx hkx => ?_, i.apart⟩⟩
    · cases hq with
      | head => exact Own.same (hL.all p (.head _)) fun x hx => hk.block x (Own.key_lt (hL.all p (.head _)) hx) fun hox => hL.apart.1 x hx ⟨o, hu.mem, hox⟩
      | tail _ hq => exact i.all q hq
    · rcases hu.keys hkx with h | h
      · rcases hn x h with h | h
        · exact hL.apart.1 x hx ⟨o, hu.mem, h⟩
        · have := Own.key_lt (hL.all p (.head _)) hx
          omega
      · exact hL.apart.1 x hx h

section
variable {G : Ctx} {n : Nat} {P : Program} {ops : Array Oper} {Q : Post} {rest : List Oper} {m : Regs} {L L' : List Own} {F : List Fact} {a : Act} {w w' : World}
variable {d : Nat} {ty : TypeId} {pos : String} {af : Array Edge} {g : Option (Nat × Bool)}

/-- One own thing has changed, and what is new besides. -/
theorem St.upd {o o' : Own} (s : St G n m L F a w) (hu : Upd L o o' L') (hk : Keep o.key w w') (ho : o'.holds w') (hn : ∀ x, o'.key x → o.key x ∨ w.heap.size ≤ x) : St G n m L' F a w' := by
  have hok : ∀ x, o.key x → keys L x := fun x hx => ⟨o, hu.mem, hx⟩
  refine ⟨s.env, s.keep.trans hk fun x hx hox => (s.mine x (hok x hox)).resolve_right (by omega), hu.owns s.own hk ho hn, fun x hx => ?_, s.x, fun φ hφ => ?_⟩
  · rcases hu.keys hx with h | h
    · rcases hn x h with h | h
      · exact s.mine x (hok x h)
      · exact .inr (Nat.le_trans s.keep.size h)
    · exact s.mine x h
  · refine φ.stable (s.facts φ hφ) ⟨hk.size, fun x hx hn' => hk.block x hx fun hox => hn' (.inr (hok x hox)), fun x hx hm => ?_⟩
    rcases hm with hm | hm
    · exact .inl hm
    · rcases hu.keys hm with h | h
      · rcases hn x h with h | h
        · exact .inr (hok x h)
        · omega
      · exact .inr h

/-- Something new is owned. -/
theorem St.add {o : Own} (s : St G n m L F a w) (hk : Keep (fun _ => False) w w') (ho : o.holds w') (hn : ∀ x, o.key x → w.heap.size ≤ x) : St G n m (o :: L) F a w' := by
  refine ⟨s.env, s.keep.trans hk fun _ _ h => h.elim, ⟨fun p hp => ?_, ⟨fun x hx hkx => ?_, s.own.apart⟩⟩, fun x hx => ?_, s.x, fun φ hφ => ?_⟩
  · cases hp with
    | head => exact ho
    | tail _ hp => exact Own.same (s.own.all p hp) fun x hx => hk.block x (Own.key_lt (s.own.all p hp) hx) id
  · have := s.own.lt hkx
    have := hn x hx
    omega
  · rcases (keys_cons _ _ _).1 hx with h | h
    · exact .inr (Nat.le_trans s.keep.size (hn x h))
    · exact s.mine x h
  · refine φ.stable (s.facts φ hφ) ⟨hk.size, fun x hx _ => hk.block x hx id, fun x hx hm => ?_⟩
    rcases hm with hm | hm
    · exact .inl hm
    · rcases (keys_cons _ _ _).1 hm with h | h
      · have := hn x h; omega
      · exact .inr h

/-- Nothing that was there has turned. -/
theorem St.quiet (s : St G n m L F a w) (hk : Keep (fun _ => False) w w') : St G n m L F a w' :=
  ⟨s.env, s.keep.trans hk fun _ _ h => h.elim, s.own.same fun x hx => hk.block x (s.own.lt hx) id, s.mine, s.x, fun φ hφ =>
    φ.stable (s.facts φ hφ) ⟨hk.size, fun x hx _ => hk.block x hx id, fun x _ hm => hm⟩⟩

/-- Something is owned no longer. -/
theorem St.era {o : Own} (s : St G n m L F a w) (he : Era L o L') : St G n m L' F a w :=
  ⟨s.env, s.keep, ⟨fun p hp => s.own.all p (he.sub hp), (he.apart s.own.apart).1⟩, fun x hx => s.mine x (he.keys hx), s.x, fun φ hφ =>
    φ.stable (s.facts φ hφ) ⟨Nat.le_refl _, fun _ _ _ => rfl, fun x _ hm => hm.imp id he.keys⟩⟩

theorem St.fact {φ : Fact} (s : St G n m L F a w) (h : φ.holds w (fun x => G.X x ∨ keys L x)) : St G n m L (φ :: F) a w :=
  ⟨s.env, s.keep, s.own, s.mine, s.x, fun ψ hψ => by
    cases hψ with
    | head => exact h
    | tail _ h' => exact s.facts ψ h'⟩

theorem ends_drop {e : Exit} {o : Own} (he : Era L o L') (h : Ends G n Q e m L' F) : Ends G n Q e m L F := fun a w s => h a w (s.era he)

/-! ### boxes -/
theorem keep_alloc (w : World) (o : Obj) : Keep (fun _ => False) w (w.alloc o) := ⟨rfl, rfl, rfl, by simp, fun x hx _ => Below.heap_alloc w o x hx⟩

theorem run_new {o : Op} {elem : TypeId} {cs : Array Value} (hx : ∀ a w, St G n m L F a w → (execOp a.eval ⟨some d, o, ty, pos, af, g⟩).run P w = .ok (.value (.pointer (some ⟨w.heap.size, 0, none⟩))) (w.alloc (.cells cs elem)))
    (hw : wantG ops m g = some true) (hd : Nat.blt d n = true)
    (h : ∀ b, RunL G n P ops Q rest ((d, .pointer (some ⟨b, 0, none⟩)) :: m) (.box b cs.toList elem :: L) F) : RunL G n P ops Q (⟨some d, o, ty, pos, af, g⟩ :: rest) m L F :=
  l_step hw fun a w s => ⟨_, _, hx a w s, h w.heap.size _ _ ((s.add (o := .box w.heap.size cs.toList elem) (keep_alloc w _) (by simpa [Own.holds] using Go.heap_alloc_new w (.cells cs elem)) (fun x hx => by
    have hx' : x = w.heap.size := hx
    omega)).put hd _)⟩

theorem l_alloc {t : TypeId} {z : Value} {size bytes : Nat} [i : Inf P t z size bytes] {cs : List Value} (hw : wantG ops m g = some true) (hd : Nat.blt d n = true) (hz : Cells z cs)
    (h : ∀ b, RunL G n P ops Q rest ((d, .pointer (some ⟨b, 0, none⟩)) :: m) (.box b cs t :: L) F) : RunL G n P ops Q (⟨some d, .alloc t, ty, pos, af, g⟩ :: rest) m L F := by
  refine run_new (cs := cs.toArray) (elem := t) (fun a w s => ?_) hw hd h
  have hc : z.cells = cs.toArray := by rw [← hz.eq]
  simp only [execOp, Instr.alloc, Sem.run_bind, run_zero i, Result.andThen_ok, newVar, newRow, newObj, Sem.run_pure, hc]
  rfl
theorem l_box {t : TypeId} {x : Operand} {v : Value} {cs : List Value} (hw : wantG ops m g = some true) (hx : ev m x = some v) (hd : Nat.blt d n = true) (hz : Cells v cs)
    (h : ∀ b, RunL G n P ops Q rest ((d, .pointer (some ⟨b, 0, none⟩)) :: m) (.box b cs t :: L) F) : RunL G n P ops Q (⟨some d, .box t x, ty, pos, af, g⟩ :: rest) m L F := by
  refine run_new (cs := cs.toArray) (elem := t) (fun a w s => ?_) hw hd h
  have hc : v.cells = cs.toArray := by rw [← hz.eq]
  simp only [execOp, s.env.eval hx, Instr.box, Sem.run_bind, newVar, newRow, newObj, Sem.run_pure, hc]
  rfl

theorem add_at (b o k : Nat) : (⟨b, o, none⟩ : Addr).add k = ⟨b, o + k, none⟩ := by unfold Addr.add; split <;> simp_all

theorem cells_at {b o k : Nat} {c cs : List Value} {t : TypeId} {fr : Nat × Nat} (hb : w.heap[b]? = some (.cells c.toArray t fr)) (ht : cs = (c.drop o).take k ∧ o + k ≤ c.length) :
    ∀ j v, cs[j]? = some v → w.cell? ((⟨b, o, none⟩ : Addr).add j) = some v := by
  intro j v hj
  rw [add_at, cell_of_row w b (o + j) _ t fr hb]
  rw [ht.1] at hj
  have hjk : j < k := by
    have := (List.getElem?_eq_some_iff.1 hj).1
    simp at this; omega
  rw [List.getElem?_take, if_pos hjk, List.getElem?_drop] at hj
  simpa using hj

theorem run_load_box {t : TypeId} {D : TypeDesc} [u : Und P t D] {b o : Nat} {c : List Value} {T : TypeId} {v : Value} (hD : aggD D = false) (hb : w.heap[b]? = some (.cells c.toArray T (0, 0))) (hv : c[o]? = some v) :
    (loadVar t ⟨b, o, none⟩).run P w = .ok v w := by
  have hc : w.cell? ⟨b, o, none⟩ = some v := by rw [cell_of_row w b o _ T _ hb]; simpa using hv
  simp [loadVar, run_isAgg u, hD, load, Sem.run, hc]
theorem run_load_agg {t : TypeId} {D : TypeDesc} [u : Und P t D] {z : Value} {size bytes : Nat} [i : Inf P t z size bytes] {b o : Nat} {c cs : List Value} {T : TypeId} {fr : Nat × Nat} (hD : aggD D = true) (hb : w.heap[b]? = some (.cells c.toArray T fr)) (hv : TakeAt c o size cs) :
    (loadVar t ⟨b, o, none⟩).run P w = .ok (.agg cs.toArray) w := by
  have e := hv.eq
  have hl : cs.length = size := by rw [e.1]; simp; omega
  have hc := run_loadCells_list (P := P) w ⟨b, o, none⟩ cs (cells_at hb e)
  rw [hl] at hc
  simp [loadVar, run_isAgg u, hD, run_sizeOf i, hc]

/-- A thing of one's own, told as a fact. -/
def fOwn (o : Own) : Fact := ⟨fun w M => o.holds w ∧ ∀ x, o.key x → x < w.heap.size ∧ ¬ M x, fun {w M w' M'} h hl => by
  obtain ⟨h1, h2⟩ := h
  refine ⟨Own.same h1 fun x hx => hl.block x (h2 x hx).1 (h2 x hx).2, fun x hx => ⟨Nat.lt_of_lt_of_le (h2 x hx).1 hl.size, fun hm => (h2 x hx).2 (hl.mine x (h2 x hx).1 hm)⟩⟩⟩
/-- It may be read: one's own, or told. -/
inductive Has (L : List Own) (F : List Fact) (o : Own) : Prop
  | own : o ∈ L → Has L F o
  | fact : fOwn o ∈ F → Has L F o
theorem Has.holds {G : Ctx} {n : Nat} {m : Regs} {L : List Own} {F : List Fact} {a : Act} {w : World} {o : Own} (h : Has L F o) (s : St G n m L F a w) : o.holds w := by
  cases h with
  | own h => exact s.own.all _ h
  | fact h => exact (s.facts _ h).1

theorem l_load {t : TypeId} {D : TypeDesc} [u : Und P t D] {x : Operand} {b o : Nat} {c : List Value} {T : TypeId} {v : Value} (hw : wantG ops m g = some true) (hx : ev m x = some (.pointer (some ⟨b, o, none⟩))) (hB : Has L F (.box b c T))
    (hD : aggD D = false) (hv : c[o]? = some v) (hd : Nat.blt d n = true) (h : RunL G n P ops Q rest ((d, v) :: m) L F) : RunL G n P ops Q (⟨some d, .load t x, ty, pos, af, g⟩ :: rest) m L F :=
  l_val v hw hd (fun a w s => by simp [execOp, s.env.eval hx, Instr.loadAt, Instr.sureAddr, run_load_box (P := P) (t := t) hD (hB.holds s) hv]) h
theorem l_loadAgg {t : TypeId} {D : TypeDesc} [u : Und P t D] {z : Value} {size bytes : Nat} [i : Inf P t z size bytes] {x : Operand} {b o : Nat} {c cs : List Value} {T : TypeId} (hw : wantG ops m g = some true) (hx : ev m x = some (.pointer (some ⟨b, o, none⟩))) (hB : Has L F (.box b c T))
    (hD : aggD D = true) (hv : TakeAt c o size cs) (hd : Nat.blt d n = true) (h : RunL G n P ops Q rest ((d, .agg cs.toArray) :: m) L F) : RunL G n P ops Q (⟨some d, .load t x, ty, pos, af, g⟩ :: rest) m L F :=
  l_val _ hw hd (fun a w s => by simp [execOp, s.env.eval hx, Instr.loadAt, Instr.sureAddr, run_load_agg (P := P) (t := t) hD (hB.holds s) hv]) h

theorem keep_setRow {b : Nat} {c : Array Value} {t : TypeId} {fr : Nat × Nat} (cs : Array Value) (_hb : w.heap[b]? = some (.cells c t fr)) : Keep (fun x => x = b) w (w.setRow b cs) :=
  ⟨rfl, rfl, rfl, by simp, fun x _ hn => setRow_other w b x cs hn⟩

/-- An operation without a value. -/
theorem l_skip {op : Op} {dst : Option Tmp} (hdst : dst = none) (hw : wantG ops m g = some true)
    (hrun : ∀ a w, St G n m L F a w → ∃ w', (execOp a.eval ⟨dst, op, ty, pos, af, g⟩).run P w = .ok .skip w' ∧ wpList P ops Q rest a w') :
    RunL G n P ops Q (⟨dst, op, ty, pos, af, g⟩ :: rest) m L F := by
  subst hdst
  intro a w s
  have hwa := wantG_eq (o := ⟨none, op, ty, pos, af, g⟩) s.env rfl hw
  refine wpList_step fun K hK => ?_
  rw [if_pos hwa]
  obtain ⟨w', hr, hn⟩ := hrun a w s
  unfold Oper.wp
  rw [hr, Oper.upon_skip]
  exact hK _ _ hn

theorem run_store_box {t : TypeId} {z : Value} {size bytes : Nat} [i : Inf P t z size bytes] {b o : Nat} {c c' vs : List Value} {T : TypeId} {v : Value} (hb : w.heap[b]? = some (.cells c.toArray T (0, 0))) (hc : Cells v vs) (h1 : ∀ u ∈ vs, u.oneCell' = true) (hs : vs.length = size) (hp : PutAt c o vs c') :
    (storeVar t ⟨b, o, none⟩ v).run P w = .ok () (w.setRow b c'.toArray) := by
  have e := hp.eq
  have hst := run_storeCells_at P b o T vs 0 c.toArray w hb (by simpa using e.2) h1
  have he : v.cells.size = size := by rw [hc.size, hs]
  simp only [Nat.add_zero] at hst
  rw [← e.1] at hst
  simp [storeVar, run_sizeOf i, he, hc.eq, hst]

theorem l_store {t : TypeId} {z : Value} {size bytes : Nat} [i : Inf P t z size bytes] {x y : Operand} {b o : Nat} {c c' vs : List Value} {T : TypeId} {v : Value} (hw : wantG ops m g = some true) (hx : ev m x = some (.pointer (some ⟨b, o, none⟩))) (hy : ev m y = some v) (hu : Upd L (.box b c T) (.box b c' T) L')
    (hc : Cells v vs) (h1 : ∀ u ∈ vs, u.oneCell' = true) (hs : vs.length = size) (hp : PutAt c o vs c') (h : RunL G n P ops Q rest m L' F) : RunL G n P ops Q (⟨none, .store t x y, ty, pos, af, g⟩ :: rest) m L F :=
  l_skip rfl hw fun a w s => by
    have hb := s.own.all _ hu.mem
    refine ⟨_, ?_, h a _ (s.upd hu (keep_setRow c'.toArray hb) (setRow_heap w b c.toArray c'.toArray T (0, 0) hb) (fun x hx => .inl hx))⟩
    simp [execOp, s.env.eval hx, s.env.eval hy, Instr.storeAt, Instr.sureAddr, run_store_box (P := P) (t := t) hb hc h1 hs hp]

theorem l_fieldAddr {t : TypeId} {fs : Array Field} [u : Und P t (.struct fs)] {x : Operand} {b o j o' : Nat} {fn : String} {ft : TypeId} {fo : Nat} {fe : Bool} {fg fp : String} {fb : Nat} {z : Value} {size bytes : Nat} (hw : wantG ops m g = some true) (hx : ev m x = some (.pointer (some ⟨b, o, none⟩)))
    (hf : fs[j]? = some ⟨fn, ft, fo, fe, fg, fp, fb⟩) (i : Inf P ft z size bytes) (hz : Nat.beq size 0 = false) (ho : PlusN o fo o') (hd : Nat.blt d n = true) (h : RunL G n P ops Q rest ((d, .pointer (some ⟨b, o', none⟩)) :: m) L F) :
    RunL G n P ops Q (⟨some d, .fieldAddr t x j, ty, pos, af, g⟩ :: rest) m L F :=
  l_val _ hw hd (fun a w s => by
    have h0 : size ≠ 0 := Nat.ne_of_beq_eq_false hz
    have := ho.eq
    subst this
    simp [execOp, s.env.eval hx, Instr.fieldAt, Instr.sureAddr, run_underlying u.out, hf, fieldPlace, run_sizeOf i, h0, add_at]) h
end
end Go.Proofs.YtbllgmcpebifhaaGreatDoor.K
end

section
/- The engine, part d: calls; lists that came in; rows of one's own. -/
namespace Go.Proofs.YtbllgmcpebifhaaGreatDoor.K
open Go Go.RowKit
set_option linter.all false

inductive Evs (m : Regs) : List Operand → List Value → Prop
  | nil : Evs m [] []
  | cons {x : Operand} {v : Value} {xs : List Operand} {vs : List Value} : ev m x = some v → Evs m xs vs → Evs m (x :: xs) (v :: vs)

/-- Some of what is owned is handed on: what, and what stays. -/
inductive Take : List Own → List Own → List Own → Prop
  | nil {L : List Own} : Take L [] L
  | cons {L L1 L2 Lc : List Own} {o : Own} : Era L o L1 → Take L1 Lc L2 → Take L (o :: Lc) L2

theorem Evs.map {m : Regs} {xs : List Operand} {vs : List Value} (h : Evs m xs vs) {n : Nat} {a : Act} (he : Env n m a) : xs.map a.eval = vs := by
  induction h with
  | nil => rfl
  | cons hx _ ih => rw [List.map_cons, he.eval hx, ih]

theorem Take.split {L Lc Lr : List Own} (h : Take L Lc Lr) : (∀ o, o ∈ Lc → o ∈ L) ∧ (∀ o, o ∈ Lr → o ∈ L) ∧ (∀ x, keys L x → keys Lc x ∨ keys Lr x) ∧
    (apart L → apart Lc ∧ apart Lr ∧ ∀ x, keys Lc x → ¬ keys Lr x) := by
  induction h with
  | nil => exact ⟨fun _ h => by (cases h), fun _ h => h, fun _ h => .inr h, fun h => ⟨trivial, h, fun x hx => (keys_nil x hx).elim⟩⟩
  | @cons L L1 L2 Lc o he ht ih =>
    obtain ⟨i1, i2, i3, i4⟩ := ih
    refine ⟨fun p hp => ?_, fun p hp => he.sub (i2 p hp), fun x hx => ?_, fun ha => ?_⟩
    · cases hp with
      | head => exact he.mem
      | tail _ hp => exact he.sub (i1 p hp)
    · rcases he.split hx with h | h
      · exact .inl ((keys_cons _ _ _).2 (.inl h))
      · rcases i3 x h with h | h
        · exact .inl ((keys_cons _ _ _).2 (.inr h))
        · exact .inr h
    · obtain ⟨a1, a2⟩ := he.apart ha
      obtain ⟨j1, j2, j3⟩ := i4 a1
      refine ⟨⟨fun x hx hk => ?_, j1⟩, j2, fun x hx hk => ?_⟩
      · obtain ⟨p, hp, hpx⟩ := hk
        exact a2 x hx ⟨p, i1 p hp, hpx⟩
      · rcases (keys_cons _ _ _).1 hx with h | h
        · obtain ⟨p, hp, hpx⟩ := hk
          exact a2 x h ⟨p, i2 p hp, hpx⟩
        · exact j3 x h hk

theorem run_call {P : Program} {f : FuncId} {ρ : Operand → Value} {x : Operand} {xs : List Operand} {vs first cap : List Value} {ts : Array TypeId} {dst : Option Tmp} {ty : TypeId} {pos : String} {af : Array Edge} {g : Option (Nat × Bool)}
    (hp : Plain P f) (hx : ρ x = .func (.func f) first.toArray cap.toArray) (hv : xs.map ρ = vs) (w : World) :
    (execOp ρ ⟨dst, .call ⟨.value x, xs.toArray, ts⟩, ty, pos, af, g⟩).run P w = .ok (.enter f (first ++ vs ++ cap).toArray) w := by
  obtain ⟨fn, c, h1, h2, h3⟩ := hp
  have hn : ¬ fn.name = "runtime.NumGoroutine" := by simpa using h3
  have hv' : Array.map ρ xs.toArray = vs.toArray := by rw [List.map_toArray, hv]
  simp [execOp, resolve, hx, Deferred.ofValue, invoke, callFunc, program, Sem.run, h1, hn, h2, hv']

section
variable {G : Ctx} {n : Nat} {P : Program} {ops : Array Oper} {Q : Post} {rest : List Oper} {m : Regs} {L L' : List Own} {F : List Fact} {a : Act} {w w' : World}
variable {d : Nat} {ty : TypeId} {pos : String} {af : Array Edge} {g : Option (Nat × Bool)}

/-- A call. -/
theorem l_callF {f : FuncId} {x : Operand} {xs : List Operand} {vs first cap : List Value} {ts : Array TypeId} {Lc Lr : List Own} {Fc : List Fact} {post : Value → List Own → List Fact → Prop}
    (hw : wantG ops m g = some true) (hx : ev m x = some (.func (.func f) first.toArray cap.toArray)) (hv : Evs m xs vs) (hd : Nat.blt d n = true)
    (hs : Spec P f (first ++ vs ++ cap) Lc Fc post) (hL : Take L Lc Lr) (hF : ∀ φ, φ ∈ Fc → φ ∈ F)
    (h : ∀ v L' F', post v L' F' → RunL G n P ops Q rest ((d, v) :: m) (L' ++ Lr) (F' ++ F)) :
    RunL G n P ops Q (⟨some d, .call ⟨.value x, xs.toArray, ts⟩, ty, pos, af, g⟩ :: rest) m L F := by
  intro a w s
  have hwa := wantG_eq (o := ⟨some d, .call ⟨.value x, xs.toArray, ts⟩, ty, pos, af, g⟩) s.env rfl hw
  refine wpList_step fun K hK => ?_
  rw [if_pos hwa]
  unfold Oper.wp
  rw [run_call hs.1 (s.env.eval hx) (hv.map s.env) w, Oper.upon_enter]
  obtain ⟨t1, t2, t3, t4⟩ := hL.split
  obtain ⟨u1, u2, u3⟩ := t4 s.own.apart
  have kc : ∀ y, keys Lc y → keys L y := fun y ⟨o, ho, hy⟩ => ⟨o, t1 o ho, hy⟩
  have kr : ∀ y, keys Lr y → keys L y := fun y ⟨o, ho, hy⟩ => ⟨o, t2 o ho, hy⟩
  refine (hs.2 w (fun y => G.X y ∨ keys Lr y) ?_ ⟨fun o ho => s.own.all o (t1 o ho), u1⟩ ?_).mono ?_
  · rintro y (hy | hy)
    · exact ⟨Nat.lt_of_lt_of_le (s.x y hy).1 s.keep.size, fun hk => s.xkeys hy (kc y hk)⟩
    · exact ⟨s.own.lt (kr y hy), fun hk => u3 y hk hy⟩
  · intro φ hφ
    refine φ.stable (s.facts φ (hF φ hφ)) ⟨Nat.le_refl _, fun _ _ _ => rfl, fun y _ hy => ?_⟩
    rcases hy with (hy | hy) | hy
    · exact .inl hy
    · exact .inr (kr y hy)
    · exact .inr (kc y hy)
  · rintro e w' ⟨v, L', F', rfl, hpost, hkeep, hown, hnew, hfacts⟩
    refine hK _ _ (h v L' F' hpost _ w' ?_)
    have hsame : ∀ y, keys Lr y → w'.heap[y]? = w.heap[y]? := fun y hy => hkeep.block y (s.own.lt (kr y hy)) fun hk => u3 y hk hy
    have hlr : Owns w' Lr := Owns.same ⟨fun o ho => s.own.all o (t2 o ho), u2⟩ hsame
    have hap : ∀ y, keys L' y → ¬ keys Lr y := fun y hy hk => by
      rcases hnew y hy with h | h
      · exact u3 y h hk
      · have := s.own.lt (kr y hk)
        omega
    have st : St G n m (L' ++ Lr) (F' ++ F) a w' := by
      refine ⟨s.env, s.keep.trans hkeep fun y hy hk => (s.mine y (kc y hk)).resolve_right (by omega), ⟨fun o ho => ?_, ?_⟩, fun y hy => ?_, s.x, fun φ hφ => ?_⟩
      · rcases List.mem_append.1 ho with h | h
        · exact hown.all o h
        · exact hlr.all o h
      · have key : ∀ A : List Own, apart A → (∀ y, keys A y → ¬ keys Lr y) → apart (A ++ Lr) := by
          intro A
          induction A with
          | nil => exact fun _ _ => hlr.apart
          | cons p A ih =>
            intro hA hk
            refine ⟨fun y hy hk' => ?_, ih hA.2 fun y hy => hk y ((keys_cons _ _ _).2 (.inr hy))⟩
            rcases (keys_append _ _ _).1 hk' with h | h
            · exact hA.1 y hy h
            · exact hk y ((keys_cons _ _ _).2 (.inl hy)) h
        exact key L' hown.apart hap
      · rcases (keys_append _ _ _).1 hy with h | h
        · rcases hnew y h with h | h
          · exact s.mine y (kc y h)
          · exact .inr (Nat.le_trans s.keep.size h)
        · exact s.mine y (kr y h)
      · rcases List.mem_append.1 hφ with h | h
        · refine φ.stable (hfacts φ h) ⟨Nat.le_refl _, fun _ _ _ => rfl, fun y _ hy => ?_⟩
          rcases hy with hy | hy
          · exact .inl (.inl hy)
          · rcases (keys_append _ _ _).1 hy with hy | hy
            · exact .inr hy
            · exact .inl (.inr hy)
        · refine φ.stable (s.facts φ h) ⟨hkeep.size, fun y hy hn => hkeep.block y hy fun hk => hn (.inr (kc y hk)), fun y hy hm => ?_⟩
          rcases hm with hm | hm
          · exact .inl hm
          · rcases (keys_append _ _ _).1 hm with h | h
            · rcases hnew y h with h | h
              · exact .inr (kc y h)
              · omega
            · exact .inr (kr y h)
    exact st.put hd v

theorem l_call {f : FuncId} {xs : List Operand} {vs : List Value} {ts : Array TypeId} {Lc Lr : List Own} {Fc : List Fact} {post : Value → List Own → List Fact → Prop}
    (hw : wantG ops m g = some true) (hv : Evs m xs vs) (hd : Nat.blt d n = true)
    (hs : Spec P f vs Lc Fc post) (hL : Take L Lc Lr) (hF : ∀ φ, φ ∈ Fc → φ ∈ F)
    (h : ∀ v L' F', post v L' F' → RunL G n P ops Q rest ((d, v) :: m) (L' ++ Lr) (F' ++ F)) :
    RunL G n P ops Q (⟨some d, .call ⟨.value (.func f), xs.toArray, ts⟩, ty, pos, af, g⟩ :: rest) m L F :=
  l_callF (first := []) (cap := []) hw rfl hv hd (by simpa using hs) hL hF h

/-- A call that only computes. -/
def Gives (v : Value) (v' : Value) (L' : List Own) (F' : List Fact) : Prop := v' = v ∧ L' = [] ∧ F' = []
theorem l_callP {f : FuncId} {xs : List Operand} {vs : List Value} {ts : Array TypeId} {Fc : List Fact} {v : Value}
    (hw : wantG ops m g = some true) (hv : Evs m xs vs) (hd : Nat.blt d n = true)
    (hs : Spec P f vs [] Fc (Gives v)) (hF : ∀ φ, φ ∈ Fc → φ ∈ F)
    (h : RunL G n P ops Q rest ((d, v) :: m) L F) :
    RunL G n P ops Q (⟨some d, .call ⟨.value (.func f), xs.toArray, ts⟩, ty, pos, af, g⟩ :: rest) m L F :=
  l_call hw hv hd hs .nil hF fun v' L' F' ⟨h1, h2, h3⟩ => by subst h1; subst h2; subst h3; exact h
end

theorem Spec.mono {P : Program} {f : FuncId} {args : List Value} {L : List Own} {F : List Fact} {post post' : Value → List Own → List Fact → Prop} (h : Spec P f args L F post) (hp : ∀ v L' F', post v L' F' → post' v L' F') : Spec P f args L F post' :=
  ⟨h.1, fun w X h1 h2 h3 => (h.2 w X h1 h2 h3).mono fun e w' ⟨v, L', F', h4, h5, h6⟩ => ⟨v, L', F', h4, hp _ _ _ h5, h6⟩⟩

/-! ### lists -/
def ListAt {α : Type} (s : Nat) (R : Rep α) (v : Value) (l : List α) (w : World) (M : Nat → Prop) : Prop :=
  ((∃ ad, v = .slice ad 0 0) ∧ l = []) ∨
  ∃ b o cap c t fr, v = .slice (some ⟨b, o, none⟩) l.length cap ∧ l.length ≤ cap ∧ cap ≤ maxLen ∧ w.heap[b]? = some (.cells c t fr) ∧ ¬ M b ∧ o + cap * s ≤ c.size ∧
    ∀ i x, l[i]? = some x → R.holds x ((c.toList.drop (o + i * s)).take s) w M

theorem lt_of_heap {w : World} {b : Nat} {o : Obj} (h : w.heap[b]? = some o) : b < w.heap.size := by
  rcases Nat.lt_or_ge b w.heap.size with hl | hl
  · exact hl
  · rw [Array.getElem?_eq_none hl] at h; cases h

theorem ListAt.stable {α : Type} {s : Nat} {R : Rep α} {v : Value} {l : List α} {w w' : World} {M M' : Nat → Prop} (h : ListAt s R v l w M) (hl : Later w M w' M') : ListAt s R v l w' M' := by
  rcases h with h | ⟨b, o, cap, c, t, fr, h1, h2, h3, h4, h5, h6, h7⟩
  · exact .inl h
  · have hb := lt_of_heap h4
    exact .inr ⟨b, o, cap, c, t, fr, h1, h2, h3, (hl.block b hb h5).trans h4, fun hm => h5 (hl.mine b hb hm), h6, fun i x hx => R.stable (h7 i x hx) hl⟩

def fList {α : Type} (s : Nat) (R : Rep α) (v : Value) (l : List α) : Fact := ⟨ListAt s R v l, fun h hl => h.stable hl⟩

def rInt (k : IntKind) : Rep Int := ⟨fun x cs _ _ => cs = [.int k x], fun h _ => h⟩
def rStr : Rep ByteArray := ⟨fun x cs _ _ => cs = [.string x], fun h _ => h⟩

theorem ListAt.slice {α : Type} {s : Nat} {R : Rep α} {v : Value} {l : List α} {w : World} {M : Nat → Prop} (h : ListAt s R v l w M) : ∃ a c, v = .slice a l.length c ∧ l.length ≤ maxLen := by
  rcases h with ⟨⟨ad, h⟩, rfl⟩ | ⟨b, o, cap, c, t, fr, h1, h2, h3, _⟩
  · exact ⟨ad, 0, h, Nat.zero_le _⟩
  · exact ⟨_, _, h1, Nat.le_trans h2 h3⟩

/-- The address of a cell of a slice. -/
def elemPtr (v : Value) (k : Nat) : Value :=
  match v with
  | .slice (some a) _ _ => .pointer (some (a.add k))
  | _ => .nilIface

section
variable {G : Ctx} {n : Nat} {P : Program} {ops : Array Oper} {Q : Post} {rest : List Oper} {m : Regs} {L L' : List Own} {F : List Fact} {a : Act} {w w' : World}
variable {d : Nat} {ty : TypeId} {pos : String} {af : Array Edge} {g : Option (Nat × Bool)} {α : Type} {s : Nat} {R : Rep α} {v : Value} {l : List α}

theorem run_len {t e : TypeId} {x : Operand} {ad : Option Addr} {k c : Nat} [u : Und P t (.slice e)] (st : St G n m L F a w) (hx : ev m x = some v) (hv : v = .slice ad k c) :
    (execOp a.eval ⟨some d, .call ⟨.builtin .len, #[x], #[t]⟩, ty, pos, af, g⟩).run P w = .ok (.value (.int .i64 (k : Int))) w := by
  subst hv
  simp [execOp, st.env.eval hx, resolve, invoke, builtin, Builtin.len_, run_underlying u.out, goInt]
theorem l_lenList {t e : TypeId} {x : Operand} [u : Und P t (.slice e)] (hw : wantG ops m g = some true) (hx : ev m x = some v) (hF : fList s R v l ∈ F) (hd : Nat.blt d n = true)
    (h : l.length ≤ 9223372036854775807 → RunL G n P ops Q rest ((d, .int .i64 (l.length : Int)) :: m) L F) : RunL G n P ops Q (⟨some d, .call ⟨.builtin .len, #[x], #[t]⟩, ty, pos, af, g⟩ :: rest) m L F :=
  l_step hw fun a w st => by
    obtain ⟨ad, c, hv, hm⟩ := ListAt.slice (st.facts _ hF)
    exact ⟨_, w, run_len st hx hv, h (by simpa [maxLen] using hm) _ _ (st.put hd _)⟩
theorem l_lenRow {t e : TypeId} {x : Operand} {E : TypeId} {k : Nat} {xs : List Value} [u : Und P t (.slice e)] (hw : wantG ops m g = some true) (hx : ev m x = some v) (hB : Has L F (.row v E s k xs)) (hd : Nat.blt d n = true)
    (h : k ≤ 9223372036854775807 → RunL G n P ops Q rest ((d, .int .i64 (k : Int)) :: m) L F) : RunL G n P ops Q (⟨some d, .call ⟨.builtin .len, #[x], #[t]⟩, ty, pos, af, g⟩ :: rest) m L F :=
  l_step hw fun a w st => by
    have hr : w.ownsRow 0 E s v k xs := hB.holds st
    rcases hr.2 with ⟨hv, rfl⟩ | ⟨b, cap, cur, hv, _, _, h1, h2, _⟩
    · exact ⟨_, w, run_len st hx hv, h (by omega) _ _ (st.put hd _)⟩
    · have : k ≤ maxLen := Nat.le_trans h1 h2
      exact ⟨_, w, run_len st hx hv, h (by simpa [maxLen] using this) _ _ (st.put hd _)⟩

theorem run_indexAddr {t e : TypeId} {z : Value} {by' : Nat} {x i : Operand} {k : IntKind} {ad : Addr} {N c j : Nat} [u : Und P t (.slice e)] [f : Inf P e z s by'] (st : St G n m L F a w) (hx : ev m x = some v) (hi : ev m i = some (.int k (j : Int))) (hv : v = .slice (some ad) N c) (hj : j < N) :
    (execOp a.eval ⟨some d, .indexAddr t x i, ty, pos, af, g⟩).run P w = .ok (.value (elemPtr v (j * s))) w := by
  subst hv
  have h1 : (0 : Int) ≤ (j : Int) := by omega
  have h2 : (j : Int) < (N : Int) := by omega
  simp [execOp, st.env.eval hx, st.env.eval hi, Instr.indexAt, asIntOf, run_underlying u.out, hj, run_sizeOf f, elemPtr]
theorem l_indexList {t e : TypeId} {z : Value} {by' : Nat} {x i : Operand} {k : IntKind} {q : Int} [u : Und P t (.slice e)] [f : Inf P e z s by'] (j : Nat) (hw : wantG ops m g = some true) (hx : ev m x = some v) (hi : ev m i = some (.int k q)) (hF : fList s R v l ∈ F) (hd : Nat.blt d n = true)
    (hq : q = (j : Int)) (hj : j < l.length) (h : RunL G n P ops Q rest ((d, elemPtr v (j * s)) :: m) L F) : RunL G n P ops Q (⟨some d, .indexAddr t x i, ty, pos, af, g⟩ :: rest) m L F :=
  l_val _ hw hd (fun a w st => by
    subst hq
    have hf : ListAt s R v l w _ := st.facts _ hF
    rcases hf with ⟨_, rfl⟩ | ⟨b, o, cap, c, t', fr, h1, _⟩
    · simp at hj
    · exact run_indexAddr st hx hi h1 hj) h
theorem l_indexRow {t e : TypeId} {z : Value} {by' : Nat} {x i : Operand} {k : IntKind} {q : Int} {E : TypeId} {N : Nat} {xs : List Value} [u : Und P t (.slice e)] [f : Inf P e z s by'] (j : Nat) (hw : wantG ops m g = some true) (hx : ev m x = some v) (hi : ev m i = some (.int k q)) (hB : Has L F (.row v E s N xs)) (hd : Nat.blt d n = true)
    (hq : q = (j : Int)) (hj : j < N) (h : RunL G n P ops Q rest ((d, elemPtr v (j * s)) :: m) L F) : RunL G n P ops Q (⟨some d, .indexAddr t x i, ty, pos, af, g⟩ :: rest) m L F :=
  l_val _ hw hd (fun a w st => by
    subst hq
    have hr : w.ownsRow 0 E s v N xs := hB.holds st
    rcases hr.2 with ⟨hv, rfl⟩ | ⟨b, cap, cur, hv, _⟩
    · omega
    · exact run_indexAddr st hx hi hv hj) h

/-- An element of one cell is loaded: what it is, its Rep tells. -/
theorem l_loadList {t : TypeId} {D : TypeDesc} {x : Operand} {k : Nat} {y : α} [u : Und P t D] (hw : wantG ops m g = some true) (hx : ev m x = some (elemPtr v k)) (hF : fList 1 R v l ∈ F) (hD : aggD D = false) (hy : l[k]? = some y) (hd : Nat.blt d n = true)
    (h : ∀ c, RunL G n P ops Q rest ((d, c) :: m) L (R.fact y [c] :: F)) : RunL G n P ops Q (⟨some d, .load t x, ty, pos, af, g⟩ :: rest) m L F :=
  l_step hw fun a w st => by
    have hf : ListAt 1 R v l w _ := st.facts _ hF
    rcases hf with ⟨_, rfl⟩ | ⟨b, o, cap, c, t', fr, h1, h2, h3, h4, h5, h6, h7⟩
    · simp at hy
    · have hk : k < l.length := (List.getElem?_eq_some_iff.1 hy).1
      have hR := h7 k y hy
      have hlt : o + k < c.size := by omega
      have hc : c[o + k]? = some c[o + k] := Array.getElem?_eq_getElem hlt
      have e : (c.toList.drop (o + k * 1)).take 1 = [c[o + k]] := by
        rw [Nat.mul_one, List.drop_eq_getElem_cons (by simpa using hlt)]
        simp
      rw [e] at hR
      refine ⟨c[o + k], w, ?_, h _ _ _ ((st.fact (φ := R.fact y [c[o + k]]) hR).put hd _)⟩
      have hcell : w.cell? ⟨b, o + k, none⟩ = some c[o + k] := by rw [cell_of_row w b (o + k) c t' fr h4, hc]
      subst h1
      simp [execOp, st.env.eval hx, elemPtr, Instr.loadAt, Instr.sureAddr, loadVar, run_isAgg u, hD, load, Sem.run, add_at, hcell]
theorem l_loadInt {t : TypeId} {D : TypeDesc} {x : Operand} {k : Nat} {ik : IntKind} {y : Int} {l : List Int} [u : Und P t D] (hw : wantG ops m g = some true) (hx : ev m x = some (elemPtr v k)) (hF : fList 1 (rInt ik) v l ∈ F) (hD : aggD D = false) (hy : l[k]? = some y) (hd : Nat.blt d n = true)
    (h : RunL G n P ops Q rest ((d, .int ik y) :: m) L F) : RunL G n P ops Q (⟨some d, .load t x, ty, pos, af, g⟩ :: rest) m L F :=
  l_loadList hw hx hF hD hy hd fun c a w st => by
    have hc : [c] = [Value.int ik y] := st.facts _ (.head _)
    injection hc with hc
    subst hc
    exact h a w (st.sub (fun _ _ h => h) fun φ h => .tail _ h)
theorem l_loadStr {t : TypeId} {D : TypeDesc} {x : Operand} {k : Nat} {y : ByteArray} {l : List ByteArray} [u : Und P t D] (hw : wantG ops m g = some true) (hx : ev m x = some (elemPtr v k)) (hF : fList 1 rStr v l ∈ F) (hD : aggD D = false) (hy : l[k]? = some y) (hd : Nat.blt d n = true)
    (h : RunL G n P ops Q rest ((d, .string y) :: m) L F) : RunL G n P ops Q (⟨some d, .load t x, ty, pos, af, g⟩ :: rest) m L F :=
  l_loadList hw hx hF hD hy hd fun c a w st => by
    have hc : [c] = [Value.string y] := st.facts _ (.head _)
    injection hc with hc
    subst hc
    exact h a w (st.sub (fun _ _ h => h) fun φ h => .tail _ h)

/-! ### rows of one's own -/
theorem row_cell {E : TypeId} {N k : Nat} {xs : List Value} {u : Value} (hr : w.ownsRow 0 E s v N xs) (hu : xs[k]? = some u) : ∃ b cap cur, v = .slice (some ⟨b, 0, none⟩) N cap ∧ w.heap[b]? = some (.cells cur E (0, 0)) ∧ cur[k]? = some u ∧ k < N * s := by
  rcases hr.2 with ⟨hv, h0⟩ | ⟨b, cap, cur, hv, _, hh, h1, h2, h3, h4⟩
  · have : xs = [] := List.eq_nil_of_length_eq_zero (by rw [hr.1, h0]; simp)
    subst this; simp at hu
  · have hk : k < xs.length := (List.getElem?_eq_some_iff.1 hu).1
    rw [hr.1] at hk
    rw [← h4, List.getElem?_take, if_pos hk] at hu
    exact ⟨b, cap, cur, hv, hh, by simpa using hu, hk⟩
theorem l_loadRow {t : TypeId} {D : TypeDesc} {x : Operand} {E : TypeId} {N k : Nat} {xs : List Value} {y : Value} [u : Und P t D] (hw : wantG ops m g = some true) (hx : ev m x = some (elemPtr v k)) (hB : Has L F (.row v E s N xs)) (hD : aggD D = false) (hy : xs[k]? = some y) (hd : Nat.blt d n = true)
    (h : RunL G n P ops Q rest ((d, y) :: m) L F) : RunL G n P ops Q (⟨some d, .load t x, ty, pos, af, g⟩ :: rest) m L F :=
  l_val y hw hd (fun a w st => by
    obtain ⟨b, cap, cur, hv, hh, hc, _⟩ := row_cell (hB.holds st) hy
    have hcell : w.cell? ⟨b, k, none⟩ = some y := by rw [cell_of_row w b k cur E _ hh, hc]
    subst hv
    simp [execOp, st.env.eval hx, elemPtr, Instr.loadAt, Instr.sureAddr, loadVar, run_isAgg u, hD, load, Sem.run, add_at, hcell]) h
theorem l_storeRow {t : TypeId} {z : Value} {by' : Nat} [i : Inf P t z 1 by'] {x y : Operand} {E : TypeId} {N k : Nat} {xs : List Value} {u : Value} (hw : wantG ops m g = some true) (hx : ev m x = some (elemPtr v k)) (hy : ev m y = some u) (hu : Upd L (.row v E s N xs) (.row v E s N (xs.set k u)) L')
    (hc : Cells u [u]) (h1 : u.oneCell' = true) (hk : k < xs.length) (h : RunL G n P ops Q rest m L' F) : RunL G n P ops Q (⟨none, .store t x y, ty, pos, af, g⟩ :: rest) m L F :=
  l_skip rfl hw fun a w st => by
    have hr : w.ownsRow 0 E s v N xs := st.own.all _ hu.mem
    obtain ⟨b, cap, cur, hv, hh, hc', hkn⟩ := row_cell hr (List.getElem?_eq_getElem hk)
    have hlt : k < cur.size := (Array.getElem?_eq_some_iff.1 hc').1
    have hst := run_store_box (P := P) (t := t) (w := w) (b := b) (o := k) (c := cur.toList) (T := E) (c' := cur.toList.set k u) (by simpa using hh) hc (by intro x hx; simp at hx; subst hx; exact h1) (by simp) (by
      have key : ∀ (k : Nat) (c : List Value), k < c.length → PutAt c k [u] (c.set k u) := by
        intro k
        induction k with
        | zero => intro c hc; cases c with
          | nil => simp at hc
          | cons x r => exact .here (.cons .nil)
        | succ k ih => intro c hc; cases c with
          | nil => simp at hc
          | cons x r => exact .next (ih r (by simpa using hc))
      exact key k cur.toList (by simpa using hlt))
    refine ⟨_, ?_, h a _ (st.upd hu (w' := w.setRow b (cur.toList.set k u).toArray) ?_ ?_ ?_)⟩
    · have hx' := st.env.eval hx
      rw [hv] at hx'
      simp only [elemPtr, add_at, Nat.zero_add] at hx'
      simp [execOp, hx', st.env.eval hy, Instr.storeAt, Instr.sureAddr, hst]
    · subst hv
      have := keep_setRow (cur.toList.set k u).toArray hh
      exact ⟨this.os, this.tape, this.output, this.size, fun x hx hn => this.block x hx fun e => hn (by simp [Own.key, Value.ownBlock, e])⟩
    · refine ⟨by rw [List.length_set]; exact hr.1, .inr ⟨b, cap, (cur.toList.set k u).toArray, hv, Nat.zero_le _, setRow_heap w b cur _ E (0, 0) hh, ?_⟩⟩
      rcases hr.2 with ⟨hv', h0⟩ | ⟨b', cap', cur', hv', _, hh', q1, q2, q3, q4⟩
      · rw [hv] at hv'; cases hv'
      · rw [hv] at hv'
        injection hv' with e1 e2 e3
        injection e1 with e1; injection e1 with e1
        subst e1; subst e3
        rw [hh] at hh'
        injection hh' with hh'; injection hh' with hh'
        subst hh'
        refine ⟨q1, q2, by simpa using q3, ?_⟩
        rw [List.take_set, q4]
    · intro x hx; exact .inl hx
end
end Go.Proofs.YtbllgmcpebifhaaGreatDoor.K
end

section
/- The engine, part e: append, make, slices of slices, returns. -/
namespace Go.Proofs.YtbllgmcpebifhaaGreatDoor.K
open Go Go.RowKit
set_option linter.all false

theorem keep_grown {w w' : World} {r : Option Nat} (h : w.grownBy w' r) : Keep (fun x => r = some x) w w' :=
  ⟨h.os, h.tape, h.output, h.size, fun x hx hn => h.block x hx fun e => hn e.symm⟩
theorem keep_none {w w' : World} (h : w.grownBy w' none) : Keep (fun _ => False) w w' :=
  ⟨h.os, h.tape, h.output, h.size, fun x hx _ => h.block x hx (by simp)⟩

section
variable {G : Ctx} {n : Nat} {P : Program} {ops : Array Oper} {Q : Post} {rest : List Oper} {m : Regs} {L L' L'' : List Own} {F : List Fact} {a : Act} {w w' : World}
variable {d : Nat} {ty : TypeId} {pos : String} {af : Array Edge} {g : Option (Nat × Bool)} {α : Type} {s : Nat} {R : Rep α} {v : Value} {l : List α} {LF : Value → List Own}

/-- Where an append's source lies. -/
def Src (s : Nat) (w : World) (u : Value) (k : Nat) (ys : List Value) : Prop :=
  (u = .slice none 0 0 ∧ k = 0 ∧ ys = []) ∨ ∃ ad c, u = .slice (some ad) k c ∧ ys.length = k * s ∧ ∀ j y, ys[j]? = some y → w.cell? (ad.add j) = some y

theorem run_append {t e : TypeId} {z : Value} {by' : Nat} [u : Und P t (.slice e)] [f : Inf P e z s by'] (hs : Nat.beq z.cells.size s = true) (h0 : Nat.beq s 0 = false) {N k : Nat} {xs ys : List Value} {vs : Value} (hr : w.ownsRow 0 e s v N xs) (hsrc : Src s w vs k ys) (h1 : ∀ y ∈ ys, y.oneCell' = true)
    (h63 : N + k ≤ maxLen) (hb : (N + k) * by' ≤ 140737488355328) (ty : TypeId) :
    ∃ v' w', (Builtin.append_ #[t, t] ty #[v, vs]).run P w = .ok v' w' ∧ w'.ownsRow 0 e s v' (N + k) (xs ++ ys) ∧ Keep (fun x => v.ownBlock = some x) w w' ∧ (∀ x, v'.ownBlock = some x → v.ownBlock = some x ∨ w.heap.size ≤ x) := by
  obtain ⟨i, i1, i2, i3, i4⟩ := f.parts
  have hz := Nat.eq_of_beq_eq_true hs
  have hp : 0 < s := Nat.pos_of_ne_zero (Nat.ne_of_beq_eq_false h0)
  rcases hsrc with ⟨rfl, rfl, rfl⟩ | ⟨ad, c, rfl, hl, hc⟩
  · refine ⟨v, w, run_append_owned_none (P := P) w 0 t ty e i s u.out i1 v N xs hr, by simpa using hr, Keep.refl _ _, fun x hx => .inl hx⟩
  · obtain ⟨v', w', r1, r2, r3, _, r5⟩ := run_append_own_at (P := P) w 0 t ty e i z s by' u.out i1 i2 i3 i4 hz hp v N xs hr ad k c ys hl hc h1 h63 hb (Nat.zero_le _)
    refine ⟨v', w', r1, r2, keep_grown r3, fun x hx => ?_⟩
    rcases r5 with r5 | r5
    · exact .inl (r5 ▸ hx)
    · rw [r5] at hx; injection hx with hx; exact .inr (by omega)

theorem l_appendS {t e : TypeId} {z : Value} {by' : Nat} [u : Und P t (.slice e)] [f : Inf P e z s by'] {x y : Operand} {N k : Nat} {xs ys : List Value} {vs : Value} (hw : wantG ops m g = some true) (hx : ev m x = some v) (hy : ev m y = some vs) (hd : Nat.blt d n = true)
    (hs : Nat.beq z.cells.size s = true) (h0 : Nat.beq s 0 = false) (hu : ∀ v', Upd L (.row v e s N xs) (.row v' e s (N + k) (xs ++ ys)) (LF v')) (hsrc : ∀ a w, St G n m L F a w → Src s w vs k ys) (h1 : ∀ y ∈ ys, y.oneCell' = true)
    (h63 : N + k ≤ maxLen) (hb : (N + k) * by' ≤ 140737488355328)
    (h : ∀ v', RunL G n P ops Q rest ((d, v') :: m) (LF v') F) : RunL G n P ops Q (⟨some d, .call ⟨.builtin .append, #[x, y], #[t, t]⟩, ty, pos, af, g⟩ :: rest) m L F :=
  l_step hw fun a w st => by
    obtain ⟨v', w', r1, r2, r3, r4⟩ := run_append (P := P) (t := t) hs h0 (st.own.all _ (hu v).mem) (hsrc a w st) h1 h63 hb ty
    refine ⟨v', w', ?_, h v' _ _ ((st.upd (hu v') r3 r2 r4).put hd v')⟩
    simp [execOp, st.env.eval hx, st.env.eval hy, resolve, invoke, builtin, r1]

theorem src_row {E : TypeId} {k : Nat} {ys : List Value} {vs : Value} (hr : w.ownsRow 0 E s vs k ys) : Src s w vs k ys := by
  rcases hr.2 with ⟨h1, h2⟩ | ⟨b, cap, cur, h1, _⟩
  · exact .inl ⟨h1, h2, List.eq_nil_of_length_eq_zero (by rw [hr.1, h2]; simp)⟩
  · exact .inr ⟨⟨b, 0, none⟩, cap, h1, hr.1, World.ownsRow.cells hr (g := b) (by rw [h1]; rfl)⟩
theorem src_list {vs : Value} {M : Nat → Prop} (hF : ListAt s R vs l w M) : ∃ ys, Src s w vs l.length ys ∧ ys.length = l.length * s ∧ ∀ i x, l[i]? = some x → R.holds x ((ys.drop (i * s)).take s) w M := by
  rcases hF with ⟨⟨ad, h1⟩, rfl⟩ | ⟨b, o, cap, c, t, fr, h1, h2, h3, h4, h5, h6, h7⟩
  · cases ad with
    | none => exact ⟨[], .inl ⟨h1, rfl, rfl⟩, by simp, fun i x hx => by simp at hx⟩
    | some ad => exact ⟨[], .inr ⟨ad, 0, h1, by simp, fun j y hy => by simp at hy⟩, by simp, fun i x hx => by simp at hx⟩
  · have hmul : l.length * s ≤ cap * s := Nat.mul_le_mul_right _ h2
    refine ⟨(c.toList.drop o).take (l.length * s), .inr ⟨⟨b, o, none⟩, cap, h1, by simp; omega, ?_⟩, by simp; omega, ?_⟩
    · exact cells_at (c := c.toList) (t := t) (fr := fr) (by simpa using h4) ⟨rfl, by simp; omega⟩
    · intro i x hx
      have hi : i < l.length := (List.getElem?_eq_some_iff.1 hx).1
      have hle : i * s + s ≤ l.length * s := by rw [← Nat.succ_mul]; exact Nat.mul_le_mul_right _ hi
      have e : (((c.toList.drop o).take (l.length * s)).drop (i * s)).take s = (c.toList.drop (o + i * s)).take s := by
        rw [List.drop_take, List.drop_drop, List.take_take]
        congr 1
        omega
      rw [e]
      exact h7 i x hx
/-- append of a list of numbers that came in. -/
theorem l_appendInts {t e : TypeId} {z : Value} {by' : Nat} {ik : IntKind} {l : List Int} [u : Und P t (.slice e)] [f : Inf P e z 1 by'] {x y : Operand} {N : Nat} {xs : List Value} {vs : Value} (hw : wantG ops m g = some true) (hx : ev m x = some v) (hy : ev m y = some vs) (hd : Nat.blt d n = true)
    (hs : Nat.beq z.cells.size 1 = true) (hF : fList 1 (rInt ik) vs l ∈ F) (hu : ∀ v', Upd L (.row v e 1 N xs) (.row v' e 1 (N + l.length) (xs ++ l.map (Value.int ik))) (LF v'))
    (h63 : N + l.length ≤ maxLen) (hb : (N + l.length) * by' ≤ 140737488355328)
    (h : ∀ v', RunL G n P ops Q rest ((d, v') :: m) (LF v') F) : RunL G n P ops Q (⟨some d, .call ⟨.builtin .append, #[x, y], #[t, t]⟩, ty, pos, af, g⟩ :: rest) m L F :=
  l_appendS hw hx hy hd hs rfl hu (fun a w st => by
    obtain ⟨ys, h1, h2, h3⟩ := src_list (st.facts _ hF)
    have : ys = l.map (Value.int ik) := by
      apply List.ext_getElem?
      intro i
      by_cases hi : i < l.length
      · have := h3 i l[i] (List.getElem?_eq_getElem hi)
        have hR : (ys.drop (i * 1)).take 1 = [Value.int ik l[i]] := this
        rw [Nat.mul_one] at hR
        have h0 : ((ys.drop i).take 1)[0]? = some (Value.int ik l[i]) := by rw [hR]; rfl
        rw [List.getElem?_take, if_pos (by omega), List.getElem?_drop] at h0
        simpa [hi] using h0
      · rw [List.getElem?_eq_none (by rw [h2]; omega), List.getElem?_eq_none (by simp; omega)]
    exact this ▸ h1) (by intro y hy; obtain ⟨q, _, rfl⟩ := List.mem_map.1 hy; rfl) h63 hb h

/-- make: length and capacity are one. -/
theorem l_make {t e : TypeId} {z : Value} {by' : Nat} [u : Und P t (.slice e)] [f : Inf P e z 1 by'] {x y : Operand} {kl kc : IntKind} {q q' : Int} (j : Nat) (hw : wantG ops m g = some true) (hx : ev m x = some (.int kl q)) (hy : ev m y = some (.int kc q')) (hd : Nat.blt d n = true)
    (hz : z.cells = #[z]) (hq : q = (j : Int)) (hq' : q' = (j : Int)) (h63 : j ≤ maxLen) (hb : by' * j ≤ 281474976710656)
    (h : ∀ v, RunL G n P ops Q rest ((d, v) :: m) (.row v e 1 j (List.replicate j z) :: L) F) : RunL G n P ops Q (⟨some d, .makeSlice t x y, ty, pos, af, g⟩ :: rest) m L F :=
  l_step hw fun a w st => by
    subst hq; subst hq'
    obtain ⟨i, i1, i2, i3, i4⟩ := f.parts
    obtain ⟨w', r1, r2, r3⟩ := run_make_full (P := P) w 0 t e i z 1 u.out i1 i2 i3 kl kc j (by rw [i4]; exact hb) h63 (Nat.zero_le _)
    rw [hz, Nat.mul_one, toList_madeCells_one] at r2
    refine ⟨.slice (some ⟨w.heap.size, 0, none⟩) j j, w', by simp [execOp, st.env.eval hx, st.env.eval hy, r1], h (.slice (some ⟨w.heap.size, 0, none⟩) j j) _ _ ((st.add (o := .row (.slice (some ⟨w.heap.size, 0, none⟩) j j) e 1 j (List.replicate j z)) (keep_none r3) r2 fun x hx => ?_).put hd _)⟩
    have : w.heap.size = x := by simpa [Own.key, Value.ownBlock] using hx
    omega

/-- A literal's row: its values are given one by one. -/
theorem l_lit {t e : TypeId} {z : Value} {by' : Nat} [u : Und P t (.slice e)] [f : Inf P e z s by'] {k : Nat} {parts : Array (Nat × Operand)} {pv : List (Nat × Value)} {cs : List Value} (hw : wantG ops m g = some true) (hd : Nat.blt d n = true)
    (hp : ∀ a, Env n m a → parts.toList.map (fun p => (p.1, a.eval p.2)) = pv) (hk : k ≤ 1000000)
    (hf : Instr.fill (fun i => some (i * s, s)) ((Array.range (k * s)).map ((if k * s = 0 then #[] else z.cells)[· % (if k * s = 0 then #[] else z.cells).size]!)) pv = some cs.toArray) (hl : cs.length = k * s) (h24 : k * s ≤ 16777216)
    (h : ∀ v, RunL G n P ops Q rest ((d, v) :: m) (.row v e s k cs :: L) F) : RunL G n P ops Q (⟨some d, .buildSlice t k parts, ty, pos, af, g⟩ :: rest) m L F :=
  l_step hw fun a w st => by
    have hr := World.ownsRow_lit (base := 0) (e := e) (size := s) w cs.toArray k (Nat.zero_le _) (by simp only [maxLen]; omega) (by simpa using hl)
    refine ⟨.slice (some ⟨w.heap.size, 0, none⟩) k k, w.alloc (.cells cs.toArray e), ?_, h (.slice (some ⟨w.heap.size, 0, none⟩) k k) _ _ ((st.add (o := .row (.slice (some ⟨w.heap.size, 0, none⟩) k k) e s k cs) (keep_alloc w _) (by simpa [Own.holds] using hr) fun x hx => ?_).put hd _)⟩
    · have hpv : (parts.map fun p => (p.1, a.eval p.2)).toList = pv := by rw [Array.toList_map]; exact hp a st.env
      have hpv' : parts.toList.map (fun p => (p.1, a.eval p.2)) = pv := hp a st.env
      by_cases h0 : k * s = 0
      · have hf' := hf
        simp only [h0, if_true] at hf'
        simp [execOp, Instr.buildSlice, run_underlying u.out, run_sizeOf f, h0, hpv', newRow, newObj, Sem.run]
        simp [h0] at hf
        simp [hf]
        rfl
      · have hgt : ¬ (16777216 < k * s) := by omega
        have hf' := hf
        simp only [h0, if_false] at hf'
        simp [execOp, Instr.buildSlice, run_underlying u.out, run_sizeOf f, run_zero f, h0, hgt, hpv', newRow, newObj, Sem.run]
        simp [h0] at hf
        simp [hf]
        rfl
    · have : w.heap.size = x := by simpa [Own.key, Value.ownBlock] using hx
      omega
end
end Go.Proofs.YtbllgmcpebifhaaGreatDoor.K
end

section
/- The engine, part f: slices of slices, freezing, structs, returns. -/
namespace Go.Proofs.YtbllgmcpebifhaaGreatDoor.K
open Go Go.RowKit
set_option linter.all false

def IsSl (v : Value) : Prop := ∃ a l c, v = .slice a l c
theorem IsSl.cells {v : Value} (h : IsSl v) : Cells v [v] := Cells.ofSlice h
theorem IsSl.one {v : Value} (h : IsSl v) : v.oneCell' = true := by obtain ⟨a, l, c, rfl⟩ := h; rfl

inductive EvO (m : Regs) : Option Operand → Option Nat → Prop
  | none : EvO m none none
  | some {x : Operand} {k : IntKind} {q : Int} {i : Nat} : ev m x = some (.int k q) → q = (i : Int) → EvO m (some x) (some i)

inductive Fill (pl : Array (Nat × Nat)) : List Value → List (Nat × Operand) → Regs → List Value → Prop
  | nil {c : List Value} {m : Regs} : Fill pl c [] m c
  | cons {c c1 c2 vs : List Value} {i off : Nat} {x : Operand} {v : Value} {r : List (Nat × Operand)} {m : Regs} : ev m x = some v → Cells v vs → pl[i]? = some (off, vs.length) → PutAt c off vs c1 → Fill pl c1 r m c2 → Fill pl c ((i, x) :: r) m c2

inductive Ones : List Value → Prop
  | nil : Ones []
  | cons {v : Value} {vs : List Value} : v.oneCell' = true → Ones vs → Ones (v :: vs)
theorem Ones.all {vs : List Value} (h : Ones vs) : ∀ u ∈ vs, u.oneCell' = true := by
  induction h with
  | nil => intro u hu; cases hu
  | cons h1 _ ih => intro u hu; cases hu with
    | head => exact h1
    | tail _ hu => exact ih u hu

theorem fill_put : ∀ (vs : List Value) (c : Array Value) (off j0 : Nat), off + j0 + vs.length ≤ c.size →
    ((vs.toArray.zipIdx j0).foldl (fun cs (p : Value × Nat) => cs.setIfInBounds (off + p.2) p.1) c).toList = c.toList.take (off + j0) ++ vs ++ c.toList.drop (off + j0 + vs.length) := by
  intro vs
  induction vs with
  | nil =>
    intro c off j0 h
    have : ([] : List Value).toArray.zipIdx j0 = #[] := Array.toList_inj.1 (by simp)
    rw [this]
    simp
  | cons v r ih =>
    intro c off j0 h
    simp only [List.length_cons] at h
    have hcons : (v :: r).toArray.zipIdx j0 = #[(v, j0)] ++ r.toArray.zipIdx (j0 + 1) := by
      apply Array.toList_inj.1
      simp [List.zipIdx_cons]
    rw [hcons, Array.foldl_append]
    have h1 : (#[(v, j0)] : Array (Value × Nat)).foldl (fun cs (p : Value × Nat) => cs.setIfInBounds (off + p.2) p.1) c = c.setIfInBounds (off + j0) v := rfl
    rw [h1, ih (c.setIfInBounds (off + j0) v) off (j0 + 1) (by simp; omega)]
    have hlt : off + j0 < c.toList.length := by simp; omega
    have e1 : (c.toList.set (off + j0) v).take (off + (j0 + 1)) = c.toList.take (off + j0) ++ [v] := by
      rw [← Nat.add_assoc, List.take_succ_eq_append_getElem (by simpa using hlt)]
      simp only [List.take_set, List.getElem_set_self]
      rw [List.set_eq_of_length_le (by simp; omega)]
    have e2 : (c.toList.set (off + j0) v).drop (off + (j0 + 1) + r.length) = c.toList.drop (off + j0 + (r.length + 1)) := by
      rw [List.drop_set_of_lt (by omega)]
      congr 1
      omega
    rw [Array.toList_setIfInBounds, e1, e2]
    simp [List.append_assoc]

theorem Fill.run {pl : Array (Nat × Nat)} {c c' : List Value} {ps : List (Nat × Operand)} {m : Regs} (h : Fill pl c ps m c') {n : Nat} {a : Act} (he : Env n m a) :
    Instr.fill (pl[·]?) c.toArray (ps.map fun p => (p.1, a.eval p.2)) = some c'.toArray := by
  induction h with
  | nil => rfl
  | @cons c c1 c2 vs i off x v r m hx hc hp hput _ ih =>
    have e := hput.eq
    have hsz : v.cells.size = vs.length := hc.size
    have hv : v.cells = vs.toArray := by rw [← hc.eq]
    rw [List.map_cons]
    simp only [Instr.fill, hp, he.eval hx]
    have hle := e.2
    rw [if_neg (by simp [hsz]; omega)]
    have := fill_put vs c.toArray off 0 (by simpa using e.2)
    have key : (v.cells.zipIdx.foldl (fun cs (p : Value × Nat) => cs.setIfInBounds (off + p.2) p.1) c.toArray) = c1.toArray := by
      apply Array.toList_inj.1
      rw [hv, this]
      simpa using e.1.symm
    rw [key]
    exact ih he

/-- What a function hands back. -/
inductive Res (P : Program) (m : Regs) (L : List Own) : List ResultVar → List Value → Prop
  | nil : Res P m L [] []
  | tmp {t : Tmp} {v : Value} {r : List ResultVar} {vs : List Value} : look m t = some v → Res P m L r vs → Res P m L (.tmp t :: r) (v :: vs)
  | agg {t : Tmp} {b : Nat} {T : TypeId} {D : TypeDesc} {z : Value} {size bytes : Nat} {c cs : List Value} {T' : TypeId} {r : List ResultVar} {vs : List Value} (u : Und P T D) (i : Inf P T z size bytes) : look m t = some (.pointer (some ⟨b, 0, none⟩)) → Own.box b c T' ∈ L → aggD D = true → TakeAt c 0 size cs →
      Res P m L r vs → Res P m L (.cell t T :: r) (.agg cs.toArray :: vs)
  | one {t : Tmp} {b : Nat} {T : TypeId} {D : TypeDesc} {c : List Value} {v : Value} {T' : TypeId} {r : List ResultVar} {vs : List Value} (u : Und P T D) : look m t = some (.pointer (some ⟨b, 0, none⟩)) → Own.box b c T' ∈ L → aggD D = false → c[0]? = some v →
      Res P m L r vs → Res P m L (.cell t T :: r) (v :: vs)

def retVal : List Value → Value
  | [v] => v
  | vs => .tuple vs.toArray

def getRes (tmps : Array Value) : ResultVar → Sem Value
  | .tmp t => pure (tmps.getD t undef)
  | .cell x t => do loadVar t (← asAddr (tmps.getD x undef))
theorem results_eq (fn : Func) (tmps : Array Value) : results fn tmps = (do
    let vs ← fn.results.mapM (getRes tmps)
    pure (if h : vs.size = 1 then vs[0] else .tuple vs)) := rfl

theorem Res.run {P : Program} {m : Regs} {L : List Own} {rs : List ResultVar} {vs : List Value} (h : Res P m L rs vs) {n : Nat} {a : Act} {w : World} (he : Env n m a) (hL : Owns w L) :
    (rs.mapM (getRes a.tmps)).run P w = Result.ok vs w := by
  induction h with
  | nil => rfl
  | tmp h1 _ ih =>
    rw [List.mapM_cons]
    simp only [Sem.run_bind, getRes, Sem.run_pure, Result.andThen_ok, he.getD h1, ih]
  | @agg t b T D z size bytes c cs T' r vs u i h1 h2 h3 h4 _ ih =>
    rw [List.mapM_cons]
    have hb := hL.all _ h2
    have hg : (getRes a.tmps (.cell t T)).run P w = .ok (.agg cs.toArray) w := by
      simp only [getRes, Sem.run_bind, he.getD h1, asAddr, Sem.run_pure, Result.andThen_ok]
      exact run_load_agg (u := u) (i := i) h3 hb h4
    simp only [Sem.run_bind, hg, Result.andThen_ok, ih, Sem.run_pure]
  | @one t b T D c v T' r vs u h1 h2 h3 h4 _ ih =>
    rw [List.mapM_cons]
    have hb := hL.all _ h2
    have hg : (getRes a.tmps (.cell t T)).run P w = .ok v w := by
      simp only [getRes, Sem.run_bind, he.getD h1, asAddr, Sem.run_pure, Result.andThen_ok]
      exact run_load_box (u := u) h3 hb h4
    simp only [Sem.run_bind, hg, Result.andThen_ok, ih, Sem.run_pure]

section
variable {G : Ctx} {n : Nat} {P : Program} {ops : Array Oper} {Q : Post} {rest : List Oper} {m : Regs} {L L' L'' : List Own} {F : List Fact} {a : Act} {w w' : World}
variable {d : Nat} {ty : TypeId} {pos : String} {af : Array Edge} {g : Option (Nat × Bool)} {α : Type} {s : Nat} {R : Rep α} {v : Value} {l : List α} {LF : Value → List Own}

theorem e_res {fn : Func} {post : Value → List Own → List Fact → Prop} {rs : List ResultVar} {vs : List Value} (hr : fn.results = rs.toArray) (h : Res P m L rs vs) (Lo : List Own) (Fo : List Fact)
    (hL : ∀ o, o ∈ Lo → o ∈ L) (hap : ∀ w, Owns w L → apart Lo) (hF : ∀ φ, φ ∈ Fo → φ ∈ F) (hp : post (retVal vs) Lo Fo) : Ends G n (bodyPost P fn (Fin G post)) .ret m L F := by
  refine e_ret (retVal vs) Lo Fo (fun a w s => ?_) hL hap hF hp
  have := h.run s.env s.own
  rw [results_eq, hr]
  simp only [List.mapM_toArray, Sem.run_bind, Sem.run_map, this, Result.andThen_ok]
  match vs with
  | [] => rfl
  | [v] => rfl
  | _ :: _ :: _ => rfl
/-- Only a value is handed back. -/
theorem e_gives {fn : Func} {rs : List ResultVar} {vs : List Value} {v : Value} (hr : fn.results = rs.toArray) (h : Res P m L rs vs) (hv : retVal vs = v) : Ends G n (bodyPost P fn (Fin G (Gives v))) .ret m L F :=
  e_res hr h [] [] (fun _ h => by cases h) (fun _ _ => trivial) (fun _ h => by cases h) ⟨hv, rfl, rfl⟩

theorem l_isList (hF : fList s R v l ∈ F) (h : IsSl v → RunL G n P ops Q rest m L F) : RunL G n P ops Q rest m L F := fun a w st => by
  obtain ⟨ad, c, hv, _⟩ := ListAt.slice (st.facts _ hF)
  exact h ⟨ad, _, c, hv⟩ a w st
theorem c_isList {c : Code} (hF : fList s R v l ∈ F) (h : IsSl v → RunC G n P c Q m L F) : RunC G n P c Q m L F := fun a w st => by
  obtain ⟨ad, c, hv, _⟩ := ListAt.slice (st.facts _ hF)
  exact h ⟨ad, _, c, hv⟩ a w st
theorem c_lenList {c : Code} (hF : fList s R v l ∈ F) (h : l.length ≤ 9223372036854775807 → RunC G n P c Q m L F) : RunC G n P c Q m L F := fun a w st => by
  obtain ⟨ad, c, hv, hm⟩ := ListAt.slice (st.facts _ hF)
  exact h (by simpa [maxLen] using hm) a w st
theorem isSl_row {E : TypeId} {N : Nat} {xs : List Value} (hr : w.ownsRow 0 E s v N xs) : IsSl v := by
  rcases hr.2 with ⟨h, _⟩ | ⟨b, cap, cur, h, _⟩
  · exact ⟨_, _, _, h⟩
  · exact ⟨_, _, _, h⟩
theorem l_isRow {E : TypeId} {N : Nat} {xs : List Value} (hB : Has L F (.row v E s N xs)) (h : IsSl v → xs.length = N * s → RunL G n P ops Q rest m L F) : RunL G n P ops Q rest m L F := fun a w st =>
  h (isSl_row (hB.holds st)) (hB.holds st).1 a w st
theorem c_isRow {c : Code} {E : TypeId} {N : Nat} {xs : List Value} (hB : Has L F (.row v E s N xs)) (h : IsSl v → xs.length = N * s → RunC G n P c Q m L F) : RunC G n P c Q m L F := fun a w st =>
  h (isSl_row (hB.holds st)) (hB.holds st).1 a w st

/-- A row that is written no more is a list. -/
theorem St.freeze {E : TypeId} {N : Nat} {xs : List Value} (st : St G n m L F a w) (he : Era L (.row v E s N xs) L') (hl : N = l.length)
    (hR : ∀ w M, (∀ φ, φ ∈ F → φ.holds w M) → ∀ i x, l[i]? = some x → R.holds x ((xs.drop (i * s)).take s) w M) : St G n m L' (fList s R v l :: F) a w := by
  have hr : w.ownsRow 0 E s v N xs := st.own.all _ he.mem
  have st' := st.era he
  refine st'.fact ?_
  rcases hr.2 with ⟨hv, h0⟩ | ⟨b, cap, cur, hv, _, hh, h1, h2, h3, h4⟩
  · have : l = [] := List.eq_nil_of_length_eq_zero (by omega)
    exact .inl ⟨⟨none, hv⟩, this⟩
  · refine .inr ⟨b, 0, cap, cur, E, (0, 0), by rw [hv, hl], by omega, h2, hh, ?_, by omega, fun i x hx => ?_⟩
    · have hk : Own.key (.row v E s N xs) b := by simp [Own.key, hv, Value.ownBlock]
      rintro (hx | hx)
      · exact st.xkeys hx ⟨_, he.mem, hk⟩
      · exact (he.apart st.own.apart).2 b hk hx
    · have := hR w _ st'.facts i x hx
      have hi : i < l.length := (List.getElem?_eq_some_iff.1 hx).1
      have hle : i * s + s ≤ N * s := by rw [← Nat.succ_mul]; exact Nat.mul_le_mul_right _ (by omega)
      have e : (xs.drop (i * s)).take s = (cur.toList.drop (0 + i * s)).take s := by
        rw [← h4, List.drop_take, List.take_take, Nat.zero_add]
        congr 1
        omega
      rw [← e]
      exact this
theorem freeze_ints {ik : IntKind} {l : List Int} (F : List Fact) : ∀ w M, (∀ φ, φ ∈ F → φ.holds w M) → ∀ i x, l[i]? = some x → (rInt ik).holds x (((l.map (Value.int ik)).drop (i * 1)).take 1) w M := by
  intro w M _ i x hx
  have hi := (List.getElem?_eq_some_iff.1 hx)
  show ((l.map (Value.int ik)).drop (i * 1)).take 1 = [Value.int ik x]
  rw [Nat.mul_one, List.drop_eq_getElem_cons (by simpa using hi.1)]
  simp [hi.2]
theorem l_freezeInts {E : TypeId} {N : Nat} {ik : IntKind} {l : List Int} {xs : List Value} (he : Era L (.row v E 1 N xs) L') (hx : xs = l.map (Value.int ik)) (h : RunL G n P ops Q rest m L' (fList 1 (rInt ik) v l :: F)) : RunL G n P ops Q rest m L F := fun a w st =>
  h a w (st.freeze he (by have := (st.own.all _ he.mem : w.ownsRow 0 E 1 v N xs).1; rw [hx] at this; simpa using this.symm) (by rw [hx]; exact freeze_ints F))
theorem c_freezeInts {c : Code} {E : TypeId} {N : Nat} {ik : IntKind} {l : List Int} {xs : List Value} (he : Era L (.row v E 1 N xs) L') (hx : xs = l.map (Value.int ik)) (h : RunC G n P c Q m L' (fList 1 (rInt ik) v l :: F)) : RunC G n P c Q m L F := fun a w st =>
  h a w (st.freeze he (by have := (st.own.all _ he.mem : w.ownsRow 0 E 1 v N xs).1; rw [hx] at this; simpa using this.symm) (by rw [hx]; exact freeze_ints F))
theorem ends_freezeInts {e : Exit} {E : TypeId} {N : Nat} {ik : IntKind} {l : List Int} {xs : List Value} (he : Era L (.row v E 1 N xs) L') (hx : xs = l.map (Value.int ik)) (h : Ends G n Q e m L' (fList 1 (rInt ik) v l :: F)) : Ends G n Q e m L F := fun a w st =>
  h a w (st.freeze he (by have := (st.own.all _ he.mem : w.ownsRow 0 E 1 v N xs).1; rw [hx] at this; simpa using this.symm) (by rw [hx]; exact freeze_ints F))

/-! ### slices -/
theorem run_sliceAt {t e : TypeId} {z : Value} {by' : Nat} [u : Und P t (.slice e)] [f : Inf P e z s by'] {lo hi : Option Operand} {i j : Option Nat} {ad : Option Addr} {N c : Nat} (he : Env n m a) (hlo : EvO m lo i) (hhi : EvO m hi j) (hc : N ≤ c) (h1 : i.getD 0 ≤ j.getD N) (h2 : j.getD N ≤ c) :
    (Instr.sliceAt t (.slice ad N c) (lo.map a.eval) (hi.map a.eval) none).run P w = .ok (.slice (if c = i.getD 0 then ad else ad.map (fun (q : Addr) => q.add (i.getD 0 * s))) (j.getD N - i.getD 0) (c - i.getD 0)) w := by
  cases hlo with
  | none =>
    cases hhi with
    | none => simp [Instr.sliceAt, Instr.slice, Instr.sliceBounds, run_underlying u.out, run_sizeOf f]
    | @some y k q j hy hq =>
      subst hq
      have h2' : j ≤ c := h2
      simp [Instr.sliceAt, Instr.slice, Instr.sliceBounds, Instr.sliceBound, asIntOf, run_underlying u.out, run_sizeOf f, he.eval hy, h2']
  | @some x k q i hx hq =>
    subst hq
    cases hhi with
    | none =>
      have h1' : i ≤ N := h1
      simp [Instr.sliceAt, Instr.slice, Instr.sliceBounds, Instr.sliceBound, asIntOf, run_underlying u.out, run_sizeOf f, he.eval hx, h1']
    | @some y k q j hy hq =>
      subst hq
      have h1' : i ≤ j := h1
      have h2' : j ≤ c := h2
      simp [Instr.sliceAt, Instr.slice, Instr.sliceBounds, Instr.sliceBound, asIntOf, run_underlying u.out, run_sizeOf f, he.eval hx, he.eval hy, h1', h2']

theorem l_sliceList {t e : TypeId} {z : Value} {by' : Nat} [u : Und P t (.slice e)] [f : Inf P e z s by'] {x : Operand} {lo hi : Option Operand} {i j : Option Nat} (hw : wantG ops m g = some true) (hx : ev m x = some v) (hF : fList s R v l ∈ F) (hlo : EvO m lo i) (hhi : EvO m hi j) (hd : Nat.blt d n = true)
    (h1 : i.getD 0 ≤ j.getD l.length) (h2 : j.getD l.length ≤ l.length) (h : ∀ v', RunL G n P ops Q rest ((d, v') :: m) L (fList s R v' ((l.take (j.getD l.length)).drop (i.getD 0)) :: F)) :
    RunL G n P ops Q (⟨some d, .slice t x lo hi none, ty, pos, af, g⟩ :: rest) m L F :=
  l_step hw fun a w st => by
    have hf : ListAt s R v l w _ := st.facts _ hF
    rcases hf with ⟨⟨ad0, rfl⟩, rfl⟩ | ⟨b, o, cap, c, t', fr, q1, q2, q3, q4, q5, q6, q7⟩
    · have hj : j.getD 0 = 0 := by simpa using h2
      have hi0 : i.getD 0 = 0 := by simp [hj] at h1; simpa using h1
      have := run_sliceAt (P := P) (w := w) (t := t) (ad := ad0) (N := 0) (c := 0) st.env hlo hhi (Nat.le_refl _) (by omega) (by omega)
      have e : (Value.slice (if 0 = i.getD 0 then ad0 else Option.map (fun (q : Addr) => q.add (i.getD 0 * s)) ad0) (j.getD 0 - i.getD 0) (0 - i.getD 0)) = .slice ad0 0 0 := by simp [hi0, hj]
      rw [e] at this
      exact ⟨.slice ad0 0 0, w, by simp only [execOp, st.env.eval hx, Sem.run_bind, Option.map_none, this, Result.andThen_ok]; rfl, h (.slice ad0 0 0) _ _ ((st.fact (φ := fList s R (.slice ad0 0 0) _) (Or.inl ⟨⟨ad0, rfl⟩, by simp⟩ : ListAt s R (.slice ad0 0 0) _ w _)).put hd _)⟩
    · subst q1
      have := run_sliceAt (P := P) (w := w) (t := t) (ad := some ⟨b, o, none⟩) (N := l.length) (c := cap) st.env hlo hhi q2 h1 (Nat.le_trans h2 q2)
      refine ⟨_, w, by simp only [execOp, st.env.eval hx, Sem.run_bind, Option.map_none, this, Result.andThen_ok]; rfl, h _ _ _ ((st.fact ?_).put hd _)⟩
      have hlen : ((l.take (j.getD l.length)).drop (i.getD 0)).length = j.getD l.length - i.getD 0 := by simp; omega
      have helem : ∀ k x, ((l.take (j.getD l.length)).drop (i.getD 0))[k]? = some x → R.holds x ((c.toList.drop (o + i.getD 0 * s + k * s)).take s) w (fun y => G.X y ∨ keys L y) := by
        intro k x hk
        have hkl := (List.getElem?_eq_some_iff.1 hk).1
        rw [hlen] at hkl
        rw [List.getElem?_drop, List.getElem?_take, if_pos (by omega)] at hk
        have := q7 _ x hk
        rw [Nat.add_mul, ← Nat.add_assoc] at this
        exact this
      by_cases hcap : cap = i.getD 0
      · rw [if_pos hcap]
        have hz : ((l.take (j.getD l.length)).drop (i.getD 0)) = [] := List.eq_nil_of_length_eq_zero (by rw [hlen]; omega)
        refine .inr ⟨b, o, 0, c, t', fr, by rw [hlen, ← hcap]; simp, by rw [hz]; simp, Nat.zero_le _, q4, q5, by omega, fun k x hk => ?_⟩
        rw [hz] at hk; simp at hk
      · rw [if_neg hcap]
        refine .inr ⟨b, o + i.getD 0 * s, cap - i.getD 0, c, t', fr, by rw [hlen]; simp [add_at], by rw [hlen]; omega, by omega, q4, q5, ?_, helem⟩
        have : i.getD 0 * s + (cap - i.getD 0) * s = cap * s := by rw [← Nat.add_mul]; congr 1; omega
        omega

/-- The beginning of a row of one's own. -/
theorem l_sliceRow {t e : TypeId} {z : Value} {by' : Nat} [u : Und P t (.slice e)] [f : Inf P e z s by'] {x : Operand} {hi : Option Operand} {j N : Nat} {xs : List Value} (hw : wantG ops m g = some true) (hx : ev m x = some v) (hhi : EvO m hi (some j)) (hd : Nat.blt d n = true)
    (h2 : j ≤ N) (hu : ∀ v', Upd L (.row v e s N xs) (.row v' e s j (xs.take (j * s))) (LF v')) (h : ∀ v', RunL G n P ops Q rest ((d, v') :: m) (LF v') F) :
    RunL G n P ops Q (⟨some d, .slice t x none hi none, ty, pos, af, g⟩ :: rest) m L F :=
  l_step hw fun a w st => by
    have hr : w.ownsRow 0 e s v N xs := st.own.all _ (hu v).mem
    have hlen : (xs.take (j * s)).length = j * s := by
      rw [List.length_take, hr.1]
      exact Nat.min_eq_left (Nat.mul_le_mul_right _ h2)
    rcases hr.2 with ⟨hv, h0⟩ | ⟨b, cap, cur, hv, _, hh, q1, q2, q3, q4⟩
    · have hj : j = 0 := by omega
      have hv' := hv
      subst hj; subst h0
      have := run_sliceAt (P := P) (w := w) (t := t) (ad := none) (N := 0) (c := 0) st.env .none hhi (Nat.le_refl _) (by simp) (by simp)
      simp only [Option.map_none, Option.getD_none, Option.getD_some, if_true, Nat.sub_self] at this
      refine ⟨.slice none 0 0, w, by simp only [execOp, st.env.eval hx, hv', Sem.run_bind, Option.map_none, this, Result.andThen_ok]; rfl, h (.slice none 0 0) _ _ ?_⟩
      refine (st.upd (hu (.slice none 0 0)) (Keep.refl _ _) ⟨hlen, .inl ⟨rfl, rfl⟩⟩ fun x hx => by simp [Own.key, Value.ownBlock] at hx).put hd _
    · have hv' := hv
      have := run_sliceAt (P := P) (w := w) (t := t) (ad := some ⟨b, 0, none⟩) (N := N) (c := cap) st.env .none hhi q1 (by simp) (by simpa using Nat.le_trans h2 q1)
      have e : (Value.slice (if cap = (none : Option Nat).getD 0 then some ⟨b, 0, none⟩ else Option.map (fun (q : Addr) => q.add ((none : Option Nat).getD 0 * s)) (some ⟨b, 0, none⟩)) ((some j).getD N - (none : Option Nat).getD 0) (cap - (none : Option Nat).getD 0)) = .slice (some ⟨b, 0, none⟩) j cap := by
        simp [add_at]
      rw [e] at this
      simp only [Option.map_none] at this
      refine ⟨.slice (some ⟨b, 0, none⟩) j cap, w, by simp only [execOp, st.env.eval hx, hv', Sem.run_bind, Option.map_none, this, Result.andThen_ok]; rfl, h _ _ _ ((st.upd (hu _) (Keep.refl _ _) ⟨hlen, .inr ⟨b, cap, cur, rfl, Nat.zero_le _, hh, Nat.le_trans h2 q1, q2, q3, ?_⟩⟩ fun x hx => .inl ?_).put hd _)⟩
      · rw [← q4, List.take_take]
        congr 1
        exact (Nat.min_eq_left (Nat.mul_le_mul_right _ h2)).symm
      · simpa [Own.key, hv, Value.ownBlock] using hx

theorem l_sliceStr {t : TypeId} [u : Und P t .string] {x : Operand} {lo hi : Option Operand} {i j : Option Nat} {p : ByteArray} (hw : wantG ops m g = some true) (hx : ev m x = some (.string p)) (hlo : EvO m lo i) (hhi : EvO m hi j) (hd : Nat.blt d n = true)
    (h1 : i.getD 0 ≤ j.getD p.size) (h2 : j.getD p.size ≤ p.size) (h : RunL G n P ops Q rest ((d, .string (p.extract (i.getD 0) (j.getD p.size))) :: m) L F) :
    RunL G n P ops Q (⟨some d, .slice t x lo hi none, ty, pos, af, g⟩ :: rest) m L F :=
  l_val _ hw hd (fun a w st => by
    cases hlo with
    | none =>
      cases hhi with
      | none => simp [execOp, st.env.eval hx, Instr.sliceAt, Instr.slice, Instr.sliceBounds, run_underlying u.out]
      | @some y k q j hy hq =>
        subst hq
        have h2' : j ≤ p.size := h2
        simp [execOp, st.env.eval hx, Instr.sliceAt, Instr.slice, Instr.sliceBounds, Instr.sliceBound, asIntOf, run_underlying u.out, st.env.eval hy, h2']
    | @some y k q i hy hq =>
      subst hq
      cases hhi with
      | none =>
        have h1' : i ≤ p.size := h1
        simp [execOp, st.env.eval hx, Instr.sliceAt, Instr.slice, Instr.sliceBounds, Instr.sliceBound, asIntOf, run_underlying u.out, st.env.eval hy, h1']
      | @some y' k q j hy' hq =>
        subst hq
        have h1' : i ≤ j := h1
        have h2' : j ≤ p.size := h2
        simp [execOp, st.env.eval hx, Instr.sliceAt, Instr.slice, Instr.sliceBounds, Instr.sliceBound, asIntOf, run_underlying u.out, st.env.eval hy, st.env.eval hy', h1', h2']) h

/-! ### structs -/
theorem l_build {t : TypeId} {fs : Array Field} {z : Value} {size bytes : Nat} [u : Und P t (.struct fs)] [f : Inf P t z size bytes] {parts : List (Nat × Operand)} {c c' : List Value} {pl : Array (Nat × Nat)} (hw : wantG ops m g = some true) (hd : Nat.blt d n = true) (hz : Cells z c)
    (hpl : ∀ w, (fs.mapM fun f => do pure (f.offset, ← sizeOf f.type) : Sem (Array (Nat × Nat))).run P w = .ok pl w) (hf : Fill pl c parts m c') (h : RunL G n P ops Q rest ((d, .agg c'.toArray) :: m) L F) :
    RunL G n P ops Q (⟨some d, .build t parts.toArray, ty, pos, af, g⟩ :: rest) m L F :=
  l_val _ hw hd (fun a w st => by
    have h1 := hf.run st.env
    have h2 : z.cells = c.toArray := by rw [← hz.eq]
    have h3 : (parts.toArray.map fun p => (p.1, a.eval p.2)).toList = parts.map fun p => (p.1, a.eval p.2) := by simp
    have h4 := hpl w
    simp only [execOp, Instr.build, Sem.run_bind, run_zero f, Result.andThen_ok, run_underlying u.out, h4, h2, h3, h1, Sem.run_pure]) h
end
end Go.Proofs.YtbllgmcpebifhaaGreatDoor.K
end
