/- The engine, part h: regions that draw their order. -/
import Derived.Test.YtbllgmcpebifhaaDoorKg
import Derived.Orders
namespace Go.Proofs.YtbllgmcpebifhaaDoor.K
open Go Go.RowKit
set_option linter.all false

/-! ### every order, over what is known -/
def no3 : Post := fun _ _ _ => False

def Ext (c : Bool) (m : Regs) (L0 L : List Own) (F : List Fact) (m' : Regs) (L' : List Own) (F' : List Fact) : Prop :=
  (∀ t x, look m t = some x → look m' t = some x) ∧ (c = true ∨ ∀ o, o ∈ L0 → o ∈ L → o ∈ L') ∧ (∀ φ, φ ∈ F → φ ∈ F')

def OpT (G : Ctx) (n : Nat) (P : Program) (ops : Array Oper) (j : Nat) (m : Regs) (L : List Own) (F : List Fact) (K : Regs → List Own → List Fact → Prop) : Prop :=
  ∀ a w, St G n m L F a w → wpOp P ops no3 j (fun a' w' => ∃ m' L' F', St G n m' L' F' a' w' ∧ K m' L' F') a w

def RunAT (G : Ctx) (n : Nat) (P : Program) (ops : Array Oper) (Q : Post) (cl : List Nat × List Nat) (L0 : List Own) : Nat → Array Bool → Regs → List Own → List Fact → Prop
  | 0, listed, m, L, F => Region.ready .any ops listed = [] ∧ Ends G n Q .normal m L F
  | f + 1, listed, m, L, F => (Region.ready .any ops listed = [] → Ends G n Q .normal m L F) ∧ ∀ j, j ∈ Region.ready .any ops listed →
      OpT G n P ops j m L F (fun m' L' F' => (cl.1.contains j = true ∨ Ext (cl.2.contains j) m L0 L F m' L' F') ∧ RunAT G n P ops Q cl L0 f (listed.setIfInBounds j true) m' L' F')

section
variable {G : Ctx} {n : Nat} {P : Program} {ops : Array Oper} {Q : Post} {cl : List Nat × List Nat} {L0 : List Own} {m : Regs} {L : List Own} {F : List Fact}

theorem upon_no3 {o : Oper} {a : Act} {K : Act → World → Prop} {r : Result Next} (h : o.upon P a K no3 r) : o.upon P a K Q r := by
  cases r with
  | ok x w' =>
    cases x <;> simp only [Oper.upon] at h ⊢ <;> first
      | exact h
      | exact Calls.mono h (fun e w'' he => by
          cases e with
          | returned v => exact he
          | panicked c => exact he.elim
          | outgrown => obtain ⟨_, _, he⟩ := he; exact he.elim)
  | halt x w' => cases x <;> simp only [Oper.upon] at h ⊢ <;> exact h.elim

theorem wpOp_no3 {j : Nat} {K : Act → World → Prop} {a : Act} {w : World} (h : wpOp P ops no3 j K a w) : wpOp P ops Q j K a w := by
  unfold wpOp at *
  split
  · rename_i ho; simpa only [ho] using h
  · rename_i o ho
    simp only [ho] at h
    split
    · rename_i hw
      simp only [hw, if_true] at h
      rcases h with h | ⟨_, _, _, h⟩
      · exact .inl (upon_no3 h)
      · exact h.elim
    · rename_i hw
      simpa only [hw, Bool.false_eq_true, if_false] using h

theorem RunAT.sound : ∀ (f : Nat) (listed : Array Bool) (m : Regs) (L : List Own) (F : List Fact), RunAT G n P ops Q cl L0 f listed m L F → ∀ a w, St G n m L F a w → wpAny P .any ops Q f listed a w
  | 0, _, _, _, _, h, a, w, s => ⟨h.1, h.2 a w s⟩
  | f + 1, _, _, _, _, h, a, w, s => ⟨fun h0 => h.1 h0 a w s, fun i hi => wpOp_no3 (wpOp_mono (fun a' w' ⟨m', L', F', s', _, hr⟩ => RunAT.sound f _ m' L' F' hr a' w' s') (h.2 i hi a w s))⟩

theorem St.regs {m' : Regs} {a : Act} {w : World} (s : St G n m L F a w) (h : ∀ t v, look m' t = some v → look m t = some v) : St G n m' L F a w := s.sub h fun _ h => h

theorem RunAT.congr {f : Nat} {listed : Array Bool} {m m' : Regs} (he : ∀ t, look m t = look m' t) (h : RunAT G n P ops Q cl L0 f listed m L F) : RunAT G n P ops Q cl L0 f listed m' L F := by
  cases f with
  | zero => exact ⟨h.1, fun a w s => h.2 a w (s.regs fun t v ht => by rw [← he]; exact ht)⟩
  | succ f =>
    refine ⟨fun h0 a w s => h.1 h0 a w (s.regs fun t v ht => by rw [← he]; exact ht), fun j hj a w s => ?_⟩
    refine wpOp_mono ?_ (h.2 j hj a w (s.regs fun t v ht => by rw [← he]; exact ht))
    rintro a' w' ⟨m2, L2, F2, s2, he2, hr⟩
    refine ⟨m2, L2, F2, s2, he2.imp id fun ⟨x, y⟩ => ⟨fun t v ht => x t v (by rw [he]; exact ht), y⟩, hr⟩

/-! ### one operation, from one act to another -/
theorem upon_shift {o : Oper} {d : Nat} {v : Value} {a : Act} {K : Act → World → Prop} (h2 : o.dst ≠ some d) {r : Result Next} (h : o.upon P (a.put (some d) v) K no3 r) :
    o.upon P a (fun a' w' => K (a'.put (some d) v) w' ) no3 r := by
  have hc : ∀ (a : Act) (u : Value), (a.put (some d) v).put o.dst u = (a.put o.dst u).put (some d) v := fun a u => Act.put_comm a v u (by intro e he; cases he; exact h2)
  cases r with
  | ok x w' =>
    cases x <;> simp only [Oper.upon] at h ⊢
    case value u => rw [← hc]; exact h
    case skip => rw [← hc]; exact h
    case defer e => rw [← hc, ← Act.put_defers]; exact h
    case enter f args =>
      refine Calls.mono h fun e w'' he => ?_
      cases e with
      | returned u => show K _ _; rw [← hc]; exact he
      | panicked c => exact he.elim
      | outgrown => exact he
    case row row args => exact Rows.mono h fun u w'' he => by rw [← hc]; exact he
  | halt x w' => cases x <;> simp only [Oper.upon] at h ⊢ <;> exact h.elim

theorem wpOp_shift {j d : Nat} {oj : Oper} {v : Value} (hj : ops[j]? = some oj) (h1 : d ∉ oj.looksAt ops) (h2 : oj.dst ≠ some d) (hs : ∀ cs b, oj.op ≠ .select cs b) {K : Act → World → Prop} {a : Act} {w : World}
    (h : wpOp P ops no3 j K (a.put (some d) v) w) : wpOp P ops no3 j (fun a' w' => K (a'.put (some d) v) w') a w := by
  have h1' : ∀ e, some d = some e → e ∉ oj.looksAt ops := fun e he => by cases he; exact h1
  unfold wpOp at *
  simp only [hj] at *
  rw [wanted_put oj a (some d) v h1'] at h
  split
  · rename_i hw
    simp only [hw, if_true] at h
    rcases h with h | ⟨_, _, _, h⟩
    · left
      unfold Oper.wp at *
      rw [execOp_put oj hs a (some d) v h1'] at h
      exact upon_shift h2 h
    · exact h.elim
  · rename_i hw
    simp only [hw, Bool.false_eq_true, if_false] at h ⊢
    rw [← Act.put_comm a v undef (by intro e he; cases he; exact h2)]
    exact h

/-- What an operation does to the registers. -/
theorem upon_track {o : Oper} {a : Act} {K : Act → World → Prop} {r : Result Next} (h : o.upon P a K no3 r) : o.upon P a (fun a' w' => K a' w' ∧ (a'.defers = [] → ∃ v, a' = a.put o.dst v)) no3 r := by
  cases r with
  | ok x w' =>
    cases x <;> simp only [Oper.upon] at h ⊢
    case value u => exact ⟨h, fun _ => ⟨u, rfl⟩⟩
    case skip => exact ⟨h, fun _ => ⟨undef, rfl⟩⟩
    case defer e => exact ⟨h, fun h0 => by cases ho : o.dst <;> simp [Act.put, ho] at h0⟩
    case enter f args =>
      refine Calls.mono h fun e w'' he => ?_
      cases e with
      | returned u => exact ⟨he, fun _ => ⟨u, rfl⟩⟩
      | panicked c => exact he.elim
      | outgrown => obtain ⟨_, _, he⟩ := he; exact he.elim
    case row row args => exact Rows.mono h fun u w'' he => ⟨he, fun _ => ⟨u, rfl⟩⟩
  | halt x w' => cases x <;> simp only [Oper.upon] at h ⊢ <;> exact h.elim

/-! ### an operation whose value is the same whenever it comes up -/
def Gq (w : World) : Ctx := ⟨w, fun _ => False, fun _ => False⟩
def QEnd (w : World) (d : Nat) (v : Value) : Post := fun e a' w' => e = .normal ∧ a'.tmps[d]? = some v ∧ a'.defers = [] ∧ Keep (fun _ => False) w w'

theorem e_q {w : World} {n : Nat} {m' : Regs} {L' : List Own} {F' : List Fact} {d : Nat} {v : Value} (h : look m' d = some v) : Ends (Gq w) n (QEnd w d v) .normal m' L' F' :=
  fun _ _ s => ⟨rfl, s.env.get d v h, s.env.defers, s.keep⟩

def QuietOp (n : Nat) (P : Program) (ops : Array Oper) (L0 : List Own) (o : Oper) (m : Regs) (F : List Fact) (d : Nat) (v : Value) : Prop :=
  ∀ w, RunL (Gq w) n P ops (QEnd w d v) [o] m [] (F ++ L0.map fOwn)

theorem St.toQ {m' : Regs} {L' : List Own} {F' : List Fact} {a : Act} {w : World} (s : St G n m' L' F' a w) (hm : ∀ t v, look m t = some v → look m' t = some v) (hL : ∀ o, o ∈ L0 → o ∈ L') (hF : ∀ φ, φ ∈ F → φ ∈ F') :
    St (Gq w) n m [] (F ++ L0.map fOwn) a w := by
  refine ⟨⟨s.env.defers, s.env.size, fun t v h => s.env.get t v (hm t v h)⟩, Keep.refl _ _, ⟨fun o h => (by cases h), trivial⟩, fun x hx => (keys_nil x hx).elim, fun x hx => hx.elim, fun φ hφ => ?_⟩
  rcases List.mem_append.1 hφ with h | h
  · exact φ.stable (s.facts φ (hF φ h)) ⟨Nat.le_refl _, fun _ _ _ => rfl, fun x _ hx => by
      rcases hx with hx | hx
      · exact hx.elim
      · exact (keys_nil x hx).elim⟩
  · obtain ⟨o, ho, rfl⟩ := List.mem_map.1 h
    exact ⟨s.own.all o (hL o ho), fun x hx => ⟨Own.key_lt (s.own.all o (hL o ho)) hx, fun hx' => by
      rcases hx' with hx' | hx'
      · exact hx'
      · exact keys_nil x hx'⟩⟩

theorem QuietOp.run {i : Nat} {o : Oper} {m' : Regs} {L' : List Own} {F' : List Fact} {d : Nat} {v : Value} (hi : ops[i]? = some o) (hd : o.dst = some d) (hdn : d < n) (hq : QuietOp n P ops L0 o m F d v)
    (hm : ∀ t v, look m t = some v → look m' t = some v) (hL : ∀ o, o ∈ L0 → o ∈ L') (hF : ∀ φ, φ ∈ F → φ ∈ F') {a : Act} {w : World} (s : St G n m' L' F' a w) {K : Act → World → Prop}
    (hK : ∀ w', St G n ((d, v) :: m') L' F' (a.put (some d) v) w' → K (a.put (some d) v) w') : wpOp P ops no3 i K a w := by
  have h := hq w a w (s.toQ hm hL hF)
  unfold wpList at h
  unfold wpOp
  simp only [hi]
  have fin : ∀ a' w', QEnd w d v .normal a' w' → (∃ u, a' = a.put o.dst u) → K a' w' := by
    rintro a' w' ⟨_, h1, h2, h3⟩ ⟨u, rfl⟩
    rw [hd] at h1 ⊢
    have : u = v := by
      have hs := s.env.size
      simp [Act.put, hs, hdn] at h1
      exact h1
    subst this
    exact hK w' ((s.quiet h3).put (Nat.ble_eq_true_of_le hdn) u)
  split
  · rename_i hw
    simp only [hw, if_true] at h
    rcases h with h | ⟨_, _, _, h⟩
    · left
      have h' : o.upon P a (wpList P ops (QEnd w d v) []) no3 ((execOp a.eval o).run P w) := by
        have h := h
        unfold Oper.wp at h
        revert h
        generalize (execOp a.eval o).run P w = r
        intro h
        cases r with
        | ok x w' =>
          cases x <;> simp only [Oper.upon] at h ⊢ <;> first
            | exact h
            | exact Calls.mono h (fun e w'' he => by
                cases e with
                | returned v => exact he
                | panicked c => cases he.1
                | outgrown => obtain ⟨_, _, he⟩ := he; cases he.1)
        | halt x w' => cases x <;> simp only [Oper.upon] at h ⊢ <;> first | exact h.elim | cases h.1
      have h2 := upon_track h'
      unfold Oper.wp
      revert h2
      generalize (execOp a.eval o).run P w = r
      intro h2
      cases r with
      | ok x w' =>
        cases x <;> simp only [Oper.upon] at h2 ⊢
        case value u => exact fin _ _ h2.1 (h2.2 h2.1.2.2.1)
        case skip => exact fin _ _ h2.1 (h2.2 h2.1.2.2.1)
        case defer e => exact fin _ _ h2.1 (h2.2 h2.1.2.2.1)
        case enter f args =>
          refine Calls.mono h2 fun e w'' he => ?_
          cases e with
          | returned u => exact fin _ _ he.1 (he.2 he.1.2.2.1)
          | panicked c => exact he.elim
          | outgrown => exact he
        case row row args => exact Rows.mono h2 fun u w'' he => fin _ _ he.1 (he.2 he.1.2.2.1)
      | halt x w' => cases x <;> simp only [Oper.upon] at h2 ⊢ <;> exact h2.elim
    · cases h.1
  · rename_i hw
    simp only [hw, Bool.false_eq_true, if_false] at h
    have h : QEnd w d v .normal (a.put o.dst undef) w := h
    exact fin _ _ h ⟨undef, rfl⟩

/-! ### what waits -/
def Closed (ops : Array Oper) (listed : Array Bool) : Prop := ∀ (k : Nat) (o : Oper), ops[k]? = some o → listed.getD k false = true → ∀ e ∈ o.after, Region.binds .any e = true → listed.getD e.on false = true
def closedB (ops : Array Oper) (listed : Array Bool) : Bool := (List.range ops.size).all fun k => !listed.getD k false || (match ops[k]? with | some o => o.after.all (fun e => !Region.binds .any e || listed.getD e.on false) | none => true)
def waits (ops : Array Oper) (i : Nat) : Nat → Nat → Bool
  | 0, _ => false
  | f + 1, c => match ops[c]? with
    | none => false
    | some o => o.after.any fun e => Region.binds .any e && (e.on == i || waits ops i f e.on)

theorem closedB_spec {listed : Array Bool} (h : closedB ops listed = true) : Closed ops listed := by
  intro k o ho hk e he hb
  simp only [closedB, List.all_eq_true, List.mem_range] at h
  have h1 := h k (Array.getElem?_eq_some_iff.1 ho).1
  simp only [ho, hk, Bool.not_true, Bool.false_or, Array.all_eq_true_iff_forall_mem] at h1
  have := h1 e he
  simpa [hb] using this
theorem Closed.set {listed : Array Bool} {j : Nat} (h : Closed ops listed) (hj : j ∈ Region.ready .any ops listed) : Closed ops (listed.setIfInBounds j true) := by
  intro k o ho hk e he hb
  by_cases hkj : k = j
  · subst hkj
    obtain ⟨_, o', ho', hall⟩ := mem_ready.1 hj
    rw [ho] at ho'; cases ho'
    exact getD_set_true (hall e he hb)
  · rw [getD_set_ne false (Ne.symm hkj)] at hk
    exact getD_set_true (h k o ho hk e he hb)
theorem waits_spec {listed : Array Bool} {i : Nat} (h : Closed ops listed) (hi : listed.getD i false = false) : ∀ f c, waits ops i f c = true → listed.getD c false = false
  | 0, c, hw => by simp [waits] at hw
  | f + 1, c, hw => by
    unfold waits at hw
    split at hw
    · cases hw
    · rename_i o ho
      cases hc : listed.getD c false
      · rfl
      · rw [Array.any_eq_true'] at hw
        obtain ⟨e, he, hb⟩ := hw
        simp only [Bool.and_eq_true, Bool.or_eq_true, beq_iff_eq] at hb
        have := h c o ho hc e he hb.1
        rcases hb.2 with h1 | h1
        · rw [h1, hi] at this; cases this
        · rw [waits_spec h hi f e.on h1] at this; cases this
theorem waits_ready {listed : Array Bool} {i f c : Nat} (h : Closed ops listed) (hi : listed.getD i false = false) (hw : waits ops i f c = true) : c ∉ Region.ready .any ops listed := by
  intro hc
  obtain ⟨_, o, ho, hall⟩ := mem_ready.1 hc
  cases f with
  | zero => simp [waits] at hw
  | succ f =>
    unfold waits at hw
    simp only [ho] at hw
    rw [Array.any_eq_true'] at hw
    obtain ⟨e, he, hb⟩ := hw
    simp only [Bool.and_eq_true, Bool.or_eq_true, beq_iff_eq] at hb
    have := hall e he hb.1
    rcases hb.2 with h1 | h1
    · rw [h1, hi] at this; cases this
    · rw [waits_spec h hi f e.on h1] at this; cases this

/-- Forget a register. -/
def eraR (d : Nat) (m : Regs) : Regs := m.filter fun p => !(p.1 == d)
theorem look_eraR (d : Nat) : ∀ (m : Regs) (t : Nat), look (eraR d m) t = if t = d then none else look m t
  | [], t => by simp [eraR, look]
  | (s, v) :: m, t => by
    have ih := look_eraR d m t
    by_cases hs : s = d
    · have : eraR d ((s, v) :: m) = eraR d m := by simp [eraR, hs]
      rw [this, ih]
      by_cases ht : t = d
      · simp [ht]
      · rw [if_neg ht, if_neg ht, look_cons, if_neg (by omega)]
    · have : eraR d ((s, v) :: m) = (s, v) :: eraR d m := by simp [eraR, hs]
      rw [this, look_cons, look_cons, ih]
      by_cases h : s = t
      · subst h; simp [hs]
      · simp [h]

/-- **An operation whose value is the same whenever it comes up may be taken first.** -/
theorem RunAT.first {i d : Nat} {oi : Oper} {v : Value} (hi : ops[i]? = some oi) (hd : oi.dst = some d) (hdn : d < n) (hsel : ∀ (j : Nat) (o : Oper) cs b, ops[j]? = some o → o.op ≠ .select cs b) {fw : Nat} (hcl : ∀ c, cl.1.contains c = true → waits ops i fw c = true) {Lq : List Own} (hLq : Lq = [] ∨ (Lq = L0 ∧ ∀ c, cl.2.contains c = true → waits ops i fw c = true))
    (hq : QuietOp n P ops Lq oi m F d v) :
    ∀ (f : Nat) (listed : Array Bool) (mc : Regs) (Lc : List Own) (Fc : List Fact), Closed ops listed → i < listed.size →
      (∀ j oj, ops[j]? = some oj → j ≠ i → listed.getD j true = false → (∀ e ∈ oj.after, Region.binds .any e = true → e.on ≠ i) → oi.apart ops oj = true) →
      i ∈ Region.ready .any ops listed → (∀ t x, look m t = some x → look mc t = some x) → (∀ o, o ∈ Lq → o ∈ Lc) → (∀ φ, φ ∈ F → φ ∈ Fc) → look mc d = none →
      RunAT G n P ops Q cl L0 f (listed.setIfInBounds i true) ((d, v) :: mc) Lc Fc → RunAT G n P ops Q cl L0 (f + 1) listed mc Lc Fc := by
  intro f
  induction f with
  | zero =>
    intro listed mc Lc Fc hcd his hfree hr hm hL hF hfd H
    refine ⟨fun h => (by rw [h] at hr; cases hr), fun j hj => ?_⟩
    by_cases hji : j = i
    · subst hji
      intro a w s
      refine hq.run hi hd hdn hm hL hF s fun w' s' => ⟨_, _, _, s', .inr ⟨fun t x ht => ?_, .inr fun _ _ h => h, fun _ h => h⟩, H⟩
      rw [look_cons, if_neg (by intro e; rw [← e, hfd] at ht; cases ht)]; exact ht
    · have := ready_mono hj hji
      rw [H.1] at this
      cases this
  | succ f ih =>
    intro listed mc Lc Fc hcd his hfree hr hm hL hF hfd H
    refine ⟨fun h => (by rw [h] at hr; cases hr), fun j hj => ?_⟩
    by_cases hji : j = i
    · subst hji
      intro a w s
      refine hq.run hi hd hdn hm hL hF s fun w' s' => ⟨_, _, _, s', .inr ⟨fun t x ht => ?_, .inr fun _ _ h => h, fun _ h => h⟩, H⟩
      rw [look_cons, if_neg (by intro e; rw [← e, hfd] at ht; cases ht)]; exact ht
    · have hi0 : listed.getD i false = false := by
        have := (mem_ready.1 hr).1
        rw [Array.getD_eq_getD_getElem?] at this ⊢
        rw [Array.getElem?_eq_getElem his] at this ⊢
        simpa using this
      have h1 := H.2 j (ready_mono hj hji)
      obtain ⟨hjun, oj, hoj, hall⟩ := mem_ready.1 hj
      have hnot : ∀ e ∈ oj.after, Region.binds .any e = true → e.on ≠ i := fun e he hb heq => by
        have h1 := hall e he hb
        rw [heq, hi0] at h1
        cases h1
      have hncl : cl.1.contains j ≠ true := fun hc => waits_ready hcd hi0 (hcl j hc) hj
      have hap := hfree j oj hoj hji hjun hnot
      obtain ⟨p1, p2, p3⟩ := Oper.apart_spec hap
      intro a w s
      have h2 := wpOp_shift hoj (p1 d hd) (p2 d hd) (fun cs b => hsel j oj cs b hoj) (h1 (a.put (some d) v) w (s.put (Nat.ble_eq_true_of_le hdn) v))
      refine wpOp_mono ?_ h2
      rintro a' w' ⟨m', L', F', s', he, hr'⟩
      obtain ⟨e1, e2, e3⟩ := he.resolve_left hncl
      have hv : look m' d = some v := e1 d v (by rw [look_cons, if_pos rfl])
      have hmc : ∀ t x, look mc t = some x → t ≠ d ∧ look m' t = some x := fun t x ht => by
        have hne : t ≠ d := fun e => by rw [e, hfd] at ht; cases ht
        exact ⟨hne, e1 t x (by rw [look_cons, if_neg (Ne.symm hne)]; exact ht)⟩
      have hmc' : ∀ t x, look mc t = some x → look (eraR d m') t = some x := fun t x ht => by
        obtain ⟨x1, x2⟩ := hmc t x ht
        rw [look_eraR, if_neg x1]; exact x2
      have hLq' : ∀ o, o ∈ Lq → o ∈ L' := by
        rcases hLq with rfl | ⟨rfl, hw2⟩
        · intro o ho; cases ho
        · have := e2.resolve_left fun hc => waits_ready hcd hi0 (hw2 j hc) hj
          exact fun o ho => this o ho (hL o ho)
      refine ⟨eraR d m', L', F', ⟨⟨?_, ?_, fun t x ht => ?_⟩, s'.keep, s'.own, s'.mine, s'.x, s'.facts⟩, .inr ⟨hmc', e2, e3⟩, ?_⟩
      · exact s'.env.defers
      · have := s'.env.size
        simpa [Act.put] using this
      · rw [look_eraR] at ht
        split at ht
        · cases ht
        · rename_i hne
          have := s'.env.get t x ht
          simpa [Act.put, Array.getElem?_setIfInBounds_ne (Ne.symm hne)] using this
      · refine ih (listed.setIfInBounds j true) (eraR d m') L' F' (hcd.set hj) (by simpa using his) ?_ (ready_mono hr (Ne.symm hji)) (fun t x ht => hmc' t x (hm t x ht)) hLq' (fun φ h => e3 φ (hF φ h)) (by rw [look_eraR, if_pos rfl]) ?_
        · intro k ok hk hki hun hno
          refine hfree k ok hk hki ?_ hno
          by_cases hjk : j = k
          · subst hjk; exact hjun
          · rw [getD_set_ne true hjk] at hun; exact hun
        · rw [Array.setIfInBounds_comm _ _ hji]
          refine hr'.congr fun t => ?_
          rw [look_cons, look_eraR]
          by_cases h : d = t
          · subst h; rw [if_pos rfl]; exact hv
          · rw [if_neg h, if_neg (Ne.symm h)]

/-! ### the rules -/
def RunP (G : Ctx) (n : Nat) (P : Program) (ops : Array Oper) (Q : Post) (cl : List Nat × List Nat) (L0 : List Own) (plan : List Nat) (listed : Array Bool) (m : Regs) (L : List Own) (F : List Fact) : Prop :=
  RunAT G n P ops Q cl L0 plan.length listed m L F

theorem c_draw {id : Nat} {l : List Oper} (cl : List Nat × List Nat) (L0 : List Own) (plan : List Nat) (hm : P.follows .mixedOrders = true) (hl : Nat.beq plan.length l.toArray.size = true)
    (h : RunP G n P l.toArray Q cl L0 plan (Array.replicate l.toArray.size false) m L F) : RunC G n P (.region id l.toArray true) Q m L F := by
  intro a w s
  refine wp_region_any hm ?_
  have h' : RunAT _ _ _ _ _ _ _ _ _ _ _ _ := h
  rw [Nat.eq_of_beq_eq_true hl] at h'
  exact RunAT.sound _ _ _ _ _ h' a _ (s.quiet ⟨rfl, rfl, rfl, Nat.le_refl _, fun _ _ _ => rfl⟩)

def chkQ (ops : Array Oper) (cl : List Nat) (listed : Array Bool) (i : Nat) : Bool :=
  Region.noSelect ops && closedB ops listed && (Region.ready .any ops listed).contains i && Region.free .any ops listed i && Nat.blt i listed.size && cl.all fun c => waits ops i ops.size c

theorem a_quiet {i d : Nat} {plan : List Nat} {listed : Array Bool} {op : Op} {ty : TypeId} {pos : String} {af : Array Edge} {g : Option (Nat × Bool)} {v : Value} (hi : ops[i]? = some ⟨some d, op, ty, pos, af, g⟩) (hd : Nat.blt d n = true) (hc : chkQ ops (cl.1 ++ cl.2) listed i = true) (hf : look m d = none) (hL : ∀ o, o ∈ L0 → o ∈ L)
    (hq : ∀ w, RunL (Gq w) n P ops (QEnd w d v) [⟨some d, op, ty, pos, af, g⟩] m [] (F ++ L0.map fOwn))
    (h : RunP G n P ops Q cl L0 plan (listed.setIfInBounds i true) ((d, v) :: m) L F) : RunP G n P ops Q cl L0 (i :: plan) listed m L F := by
  simp only [chkQ, Bool.and_eq_true, List.all_eq_true] at hc
  obtain ⟨⟨⟨⟨⟨c1, c2⟩, c3⟩, c4⟩, c5⟩, c6⟩ := hc
  exact RunAT.first hi rfl (Nat.le_of_ble_eq_true hd) (Region.noSelect_spec c1) (fw := ops.size) (fun c hc => c6 c (List.mem_append_left _ (by simpa using hc))) (.inr ⟨rfl, fun c hc => c6 c (List.mem_append_right _ (by simpa using hc))⟩) hq plan.length listed m L F (closedB_spec c2) (Nat.le_of_ble_eq_true c5) (Region.free_spec hi c4) (by simpa using c3) (fun _ _ h => h) hL (fun _ h => h) hf h

theorem a_quiet0 {i d : Nat} {plan : List Nat} {listed : Array Bool} {op : Op} {ty : TypeId} {pos : String} {af : Array Edge} {g : Option (Nat × Bool)} {v : Value} (hi : ops[i]? = some ⟨some d, op, ty, pos, af, g⟩) (hd : Nat.blt d n = true) (hc : chkQ ops cl.1 listed i = true) (hf : look m d = none)
    (hq : ∀ w, RunL (Gq w) n P ops (QEnd w d v) [⟨some d, op, ty, pos, af, g⟩] m [] F)
    (h : RunP G n P ops Q cl L0 plan (listed.setIfInBounds i true) ((d, v) :: m) L F) : RunP G n P ops Q cl L0 (i :: plan) listed m L F := by
  simp only [chkQ, Bool.and_eq_true, List.all_eq_true] at hc
  obtain ⟨⟨⟨⟨⟨c1, c2⟩, c3⟩, c4⟩, c5⟩, c6⟩ := hc
  exact RunAT.first hi rfl (Nat.le_of_ble_eq_true hd) (Region.noSelect_spec c1) (fw := ops.size) (fun c hc => c6 c (by simpa using hc)) (Lq := []) (.inl rfl) (fun w => by simpa using hq w) plan.length listed m L F (closedB_spec c2) (Nat.le_of_ble_eq_true c5) (Region.free_spec hi c4) (by simpa using c3) (fun _ _ h => h) (fun _ h => by cases h) (fun _ h => h) hf h

def AEnd (G : Ctx) (n : Nat) (K : Regs → List Own → List Fact → Prop) : Post := fun e a' w' => e = .normal ∧ ∃ m' L' F', St G n m' L' F' a' w' ∧ K m' L' F'

theorem opT_of_runL {j : Nat} {o : Oper} {K : Regs → List Own → List Fact → Prop} (hj : ops[j]? = some o) (h : RunL G n P ops (AEnd G n K) [o] m L F) : OpT G n P ops j m L F K := by
  intro a w s
  have h := h a w s
  unfold wpList at h
  unfold wpOp
  simp only [hj]
  split
  · rename_i hw
    simp only [hw, if_true] at h
    rcases h with h | ⟨_, _, _, h, _⟩
    · left
      unfold Oper.wp at *
      revert h
      generalize (execOp a.eval o).run P w = r
      intro h
      cases r with
      | ok x w' =>
        cases x <;> simp only [Oper.upon] at h ⊢
        case value u => exact h.2
        case skip => exact h.2
        case defer e => exact h.2
        case enter f args =>
          refine Calls.mono h fun e w'' he => ?_
          cases e with
          | returned u => exact he.2
          | panicked c => cases he.1
          | outgrown => obtain ⟨_, _, he⟩ := he; cases he.1
        case row row args => exact Rows.mono h fun u w'' he => he.2
      | halt x w' => cases x <;> simp only [Oper.upon] at h ⊢ <;> first | exact h.elim | cases h.1
    · cases h
  · rename_i hw
    simp only [hw, Bool.false_eq_true, if_false] at h
    exact h.2

/-- What must be shown behind an operation: of the ones that wait for all that is read, nothing; of the others, that what was known is known. -/
def KA (G : Ctx) (n : Nat) (P : Program) (ops : Array Oper) (Q : Post) (cl : List Nat × List Nat) (L0 : List Own) (plan : List Nat) (listed : Array Bool) (i : Nat) (m : Regs) (L : List Own) (F : List Fact) (m' : Regs) (L' : List Own) (F' : List Fact) : Prop :=
  (cl.1.contains i = true ∨ Ext (cl.2.contains i) m L0 L F m' L' F') ∧ RunAT G n P ops Q cl L0 plan.length (listed.setIfInBounds i true) m' L' F'

/-- The only one that may come up. -/
theorem a_only {i : Nat} {plan : List Nat} {listed : Array Bool} {dst : Option Tmp} {op : Op} {ty : TypeId} {pos : String} {af : Array Edge} {g : Option (Nat × Bool)} (hi : ops[i]? = some ⟨dst, op, ty, pos, af, g⟩) (hr : Region.ready .any ops listed = [i])
    (h : RunL G n P ops (AEnd G n (KA G n P ops Q cl L0 plan listed i m L F)) [⟨dst, op, ty, pos, af, g⟩] m L F) : RunP G n P ops Q cl L0 (i :: plan) listed m L F := by
  refine ⟨fun h0 => (by rw [hr] at h0; cases h0), fun j hj => ?_⟩
  rw [hr] at hj
  have : j = i := by simpa using hj
  subst this
  exact opT_of_runL hi h
/-- Two may come up. -/
theorem a_two {i k : Nat} {plan : List Nat} {listed : Array Bool} {dst dst' : Option Tmp} {op op' : Op} {ty ty' : TypeId} {pos pos' : String} {af af' : Array Edge} {g g' : Option (Nat × Bool)} (p1 p2 : List Nat) (hi : ops[i]? = some ⟨dst, op, ty, pos, af, g⟩) (hk : ops[k]? = some ⟨dst', op', ty', pos', af', g'⟩) (hr : Region.ready .any ops listed = [i, k] ∨ Region.ready .any ops listed = [k, i]) (hp1 : p1.length = plan.length) (hp2 : p2.length = plan.length)
    (h : RunL G n P ops (AEnd G n (KA G n P ops Q cl L0 p1 listed i m L F)) [⟨dst, op, ty, pos, af, g⟩] m L F) (h' : RunL G n P ops (AEnd G n (KA G n P ops Q cl L0 p2 listed k m L F)) [⟨dst', op', ty', pos', af', g'⟩] m L F) : RunP G n P ops Q cl L0 (i :: plan) listed m L F := by
  refine ⟨fun h0 => (by rcases hr with hr | hr <;> rw [hr] at h0 <;> cases h0), fun j hj => ?_⟩
  have : j = i ∨ j = k := by
    rcases hr with hr | hr <;> rw [hr] at hj <;> simp at hj <;> omega
  rcases this with rfl | rfl
  · have := opT_of_runL hi h
    unfold KA at this
    rw [hp1] at this
    exact this
  · have := opT_of_runL hk h'
    unfold KA at this
    rw [hp2] at this
    exact this
theorem e_closer {plan : List Nat} {listed : Array Bool} {i : Nat} {m' : Regs} {L' : List Own} {F' : List Fact} (hc : cl.1.contains i = true) (h : RunP G n P ops Q cl L0 plan (listed.setIfInBounds i true) m' L' F') :
    Ends G n (AEnd G n (KA G n P ops Q cl L0 plan listed i m L F)) .normal m' L' F' := fun _ _ s => ⟨rfl, _, _, _, s, .inl hc, h⟩
theorem e_own {plan : List Nat} {listed : Array Bool} {i : Nat} {m' : Regs} {L' : List Own} {F' : List Fact} (hc : cl.2.contains i = true) (hm : ∀ t x, look m t = some x → look m' t = some x) (hF : ∀ φ, φ ∈ F → φ ∈ F')
    (h : RunP G n P ops Q cl L0 plan (listed.setIfInBounds i true) m' L' F') : Ends G n (AEnd G n (KA G n P ops Q cl L0 plan listed i m L F)) .normal m' L' F' := fun _ _ s => ⟨rfl, _, _, _, s, .inr ⟨hm, .inl hc, hF⟩, h⟩
theorem e_a {plan : List Nat} {listed : Array Bool} {i : Nat} {m' : Regs} {L' : List Own} {F' : List Fact} (hm : ∀ t x, look m t = some x → look m' t = some x) (hL : ∀ o, o ∈ L0 → o ∈ L') (hF : ∀ φ, φ ∈ F → φ ∈ F')
    (h : RunP G n P ops Q cl L0 plan (listed.setIfInBounds i true) m' L' F') : Ends G n (AEnd G n (KA G n P ops Q cl L0 plan listed i m L F)) .normal m' L' F' := fun _ _ s => ⟨rfl, _, _, _, s, .inr ⟨hm, .inr fun o ho _ => hL o ho, hF⟩, h⟩
theorem a_done {listed : Array Bool} (hr : Region.ready .any ops listed = []) (h : Ends G n Q .normal m L F) : RunP G n P ops Q cl L0 [] listed m L F := ⟨hr, h⟩
theorem sub_head {d : Nat} {v : Value} (h : look m d = none) : ∀ t x, look m t = some x → look ((d, v) :: m) t = some x := fun t x ht => by
  rw [look_cons, if_neg (by intro e; rw [← e, h] at ht; cases ht)]; exact ht
theorem osub_nil {L : List Own} : ∀ o, o ∈ [] → o ∈ L := fun _ h => by cases h
theorem osub_cons {L L' : List Own} {p : Own} (h : p ∈ L) (hr : ∀ o, o ∈ L' → o ∈ L) : ∀ o, o ∈ p :: L' → o ∈ L := by
  intro o ho
  cases ho with
  | head => exact h
  | tail _ h' => exact hr o h'
end

/-! ### strings, quotients -/
section
theorem e_resT {G : Ctx} {n : Nat} {P : Program} {m : Regs} {L : List Own} {F : List Fact} {fn : Func} {post : Value → List Own → List Fact → Prop} {rs : List ResultVar} {vs : List Value} {Lo Lr : List Own} {Fo : List Fact} (hr : fn.results = rs.toArray) (h : Res P m L rs vs)
    (hT : Take L Lo Lr) (hF : ∀ φ, φ ∈ Fo → φ ∈ F) (hp : post (retVal vs) Lo Fo) : Ends G n (bodyPost P fn (Fin G post)) .ret m L F :=
  e_res hr h Lo Fo hT.split.1 (fun _ ho => (hT.split.2.2.2 ho.apart).1) hF hp
variable {G : Ctx} {n : Nat} {P : Program} {ops : Array Oper} {Q : Post} {rest : List Oper} {m : Regs} {L : List Own} {F : List Fact}
variable {d : Nat} {ty : TypeId} {pos : String} {af : Array Edge} {g : Option (Nat × Bool)}
theorem l_eqB {t yt : TypeId} {x y : Operand} {p q : Bool} (ht : P.underlying t = some .bool) (hw : wantG ops m g = some true) (hx : ev m x = some (.bool p)) (hy : ev m y = some (.bool q)) (hd : Nat.blt d n = true)
    (h : RunL G n P ops Q rest ((d, .bool (decide (p = q))) :: m) L F) : RunL G n P ops Q (⟨some d, .binOp .eql t x y yt, ty, pos, af, g⟩ :: rest) m L F :=
  l_eqBool ht hw hx hy hd (by cases p <;> cases q <;> rfl) h
theorem l_neB {t yt : TypeId} {x y : Operand} {p q : Bool} (ht : P.underlying t = some .bool) (hw : wantG ops m g = some true) (hx : ev m x = some (.bool p)) (hy : ev m y = some (.bool q)) (hd : Nat.blt d n = true)
    (h : RunL G n P ops Q rest ((d, .bool (decide (p ≠ q))) :: m) L F) : RunL G n P ops Q (⟨some d, .binOp .neq t x y yt, ty, pos, af, g⟩ :: rest) m L F :=
  l_neBool ht hw hx hy hd (by cases p <;> cases q <;> rfl) h
/-- A string of these bytes. -/
def str (l : List UInt8) : Value := .string ⟨l.toArray⟩
theorem l_eqS {t yt : TypeId} {x y : Operand} {p q : List UInt8} (_ht : P.underlying t = some .string) (hw : wantG ops m g = some true) (hx : ev m x = some (.string ⟨p.toArray⟩)) (hy : ev m y = some (.string ⟨q.toArray⟩)) (hd : Nat.blt d n = true)
    (h : RunL G n P ops Q rest ((d, .bool (decide (p = q))) :: m) L F) : RunL G n P ops Q (⟨some d, .binOp .eql t x y yt, ty, pos, af, g⟩ :: rest) m L F :=
  l_eqStr hw hx hy hd (by rw [Bool.beq_eq_decide_eq, show ByteArray.toList ⟨p.toArray⟩ = p by simp, show ByteArray.toList ⟨q.toArray⟩ = q by simp]) h
theorem l_neS {t yt : TypeId} {x y : Operand} {p q : List UInt8} (_ht : P.underlying t = some .string) (hw : wantG ops m g = some true) (hx : ev m x = some (.string ⟨p.toArray⟩)) (hy : ev m y = some (.string ⟨q.toArray⟩)) (hd : Nat.blt d n = true)
    (h : RunL G n P ops Q rest ((d, .bool (decide (p ≠ q))) :: m) L F) : RunL G n P ops Q (⟨some d, .binOp .neq t x y yt, ty, pos, af, g⟩ :: rest) m L F :=
  l_neStr hw hx hy hd (by rw [show ByteArray.toList ⟨p.toArray⟩ = p by simp, show ByteArray.toList ⟨q.toArray⟩ = q by simp]; by_cases h : p = q <;> simp [h]) h
theorem l_catS {t yt : TypeId} {x y : Operand} {p q : List UInt8} (hw : wantG ops m g = some true) (hx : ev m x = some (.string ⟨p.toArray⟩)) (hy : ev m y = some (.string ⟨q.toArray⟩)) (hd : Nat.blt d n = true) (hle : p.length + q.length ≤ 9223372036854775807)
    (h : RunL G n P ops Q rest ((d, .string ⟨(p ++ q).toArray⟩) :: m) L F) : RunL G n P ops Q (⟨some d, .binOp .add t x y yt, ty, pos, af, g⟩ :: rest) m L F := by
  have e : (⟨p.toArray⟩ : ByteArray) ++ ⟨q.toArray⟩ = ⟨(p ++ q).toArray⟩ := by
    apply ByteArray.ext; apply Array.toList_inj.1; simp
  exact l_cat hw hx hy hd (by simpa [ByteArray.size] using hle) (by rw [e]; exact h)
theorem l_quoK {t yt : TypeId} {x y : Operand} {k : IntKind} {p q z : Int} (hw : wantG ops m g = some true) (hx : ev m x = some (.int k p)) (hy : ev m y = some (.int k q)) (hd : Nat.blt d n = true) (h0 : decide (0 < q) = true) (hp : 0 ≤ p)
    (hz : k.wrap (p / q) = z) (h : RunL G n P ops Q rest ((d, .int k z) :: m) L F) : RunL G n P ops Q (⟨some d, .binOp .quo t x y yt, ty, pos, af, g⟩ :: rest) m L F :=
  l_quo hw hx hy hd (by have := of_decide_eq_true h0; omega) (by rw [Int.tdiv_eq_ediv_of_nonneg hp]; exact hz) h
theorem l_remK {t yt : TypeId} {x y : Operand} {k : IntKind} {p q : Int} (hw : wantG ops m g = some true) (hx : ev m x = some (.int k p)) (hy : ev m y = some (.int k q)) (hd : Nat.blt d n = true) (h0 : decide (0 < q) = true) (hp : 0 ≤ p)
    (h : RunL G n P ops Q rest ((d, .int k (p % q)) :: m) L F) : RunL G n P ops Q (⟨some d, .binOp .rem t x y yt, ty, pos, af, g⟩ :: rest) m L F :=
  l_rem hw hx hy hd (by have := of_decide_eq_true h0; omega) (Int.tmod_eq_emod_of_nonneg hp) h
end
end Go.Proofs.YtbllgmcpebifhaaDoor.K
