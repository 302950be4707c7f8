/- The engine once more: rows of complex numbers lent, lists copied, the greater of two floats. -/
import Derived.Test.YtbclejclkicgnaaZQf

section
namespace Go.Proofs.Ytbclejclkicgnaa.K
open Go Go.RowKit Ieee
set_option linter.all false
set_option maxRecDepth 4000
set_option maxHeartbeats 1000000

section
variable {G : Ctx} {n : Nat} {P : Program} {ops : Array Oper} {Q : Post} {rest : List Oper} {m : Regs} {L L' : List Own} {F : List Fact} {d : Nat} {ty : TypeId} {pos : String} {af : Array Edge} {g : Option (Nat × Bool)} {v : Value} {LF : Value → List Own}
theorem frz_cx {l : List (Nat × Nat)} (F : List Fact) : ∀ w M, (∀ φ, φ ∈ F → φ.holds w M) → ∀ i x, l[i]? = some x → rCx.holds x (((l.map cx).drop (i * 1)).take 1) w M := by
  intro w M _ i x hx
  have hi := (List.getElem?_eq_some_iff.1 hx)
  show ((l.map cx).drop (i * 1)).take 1 = [cx x]
  rw [Nat.mul_one, List.drop_eq_getElem_cons (by simpa using hi.1)]
  simp [hi.2]
theorem St.frzCx {E : TypeId} {N : Nat} {l : List (Nat × Nat)} {xs : List Value} {a : Act} {w : World} (st : St G n m L F a w) (he : Era L (.row v E 1 N xs) L') (hx : xs = l.map cx) : St G n m L' (fList 1 rCx v l :: F) a w :=
  st.freeze he (by have := (st.own.all _ he.mem : w.ownsRow 0 E 1 v N xs).1; rw [hx] at this; simpa using this.symm) (by rw [hx]; exact frz_cx F)
theorem l_frzCx {E : TypeId} {N : Nat} {l : List (Nat × Nat)} {xs : List Value} (he : Era L (.row v E 1 N xs) L') (hx : xs = l.map cx) (h : RunL G n P ops Q rest m L' (fList 1 rCx v l :: F)) : RunL G n P ops Q rest m L F := fun a w st => h a w (st.frzCx he hx)
theorem c_frzCx {c : Code} {E : TypeId} {N : Nat} {l : List (Nat × Nat)} {xs : List Value} (he : Era L (.row v E 1 N xs) L') (hx : xs = l.map cx) (h : RunC G n P c Q m L' (fList 1 rCx v l :: F)) : RunC G n P c Q m L F := fun a w st => h a w (st.frzCx he hx)
theorem ends_nilRow {ex : Exit} {e : TypeId} (s : Nat) (h : Ends G n Q ex m (.row (.slice none 0 0) e s 0 [] :: L) F) : Ends G n Q ex m L F :=
  fun a w st => h a w (st.add (Keep.refl _ _) (World.ownsRow_nil w 0 e s) fun x hx => by simp [Own.key, Value.ownBlock] at hx)
/-- Is it nil? -/
def isNilB (v : Value) : Bool := match v with | .slice none _ _ => true | _ => false
theorem ends_nilList {ex : Exit} {l : List (Nat × Nat)} (hF : fList 1 rCx v l ∈ F) (hv : isNilB v = true) (h : l = [] → Ends G n Q ex m L F) : Ends G n Q ex m L F := fun a w st => by
  rcases st.facts _ hF with ⟨_, h1⟩ | ⟨b, o, cap, c, t, fr, h1, _⟩
  · exact h h1 a w st
  · rw [h1] at hv; cases hv
theorem l_eqNil {t yt e : TypeId} {x y : Operand} [u : Und P t (.slice e)] (hw : wantG ops m g = some true) (hx : ev m x = some v) (hy : ev m y = some (.slice none 0 0)) (hd : Nat.blt d n = true) (hv : IsSl v)
    (h : RunL G n P ops Q rest ((d, .bool (isNilB v)) :: m) L F) : RunL G n P ops Q (⟨some d, .binOp .eql t x y yt, ty, pos, af, g⟩ :: rest) m L F := by
  obtain ⟨a, l, c, rfl⟩ := hv
  refine l_bin hw hx hy hd (fun w => by unfold eqGuard; split <;> rfl) (fun w => ?_) h
  have h1 := run_equal_slice_nil (P := P) w t e a l c u.out
  have h2 : isNilB (.slice a l c) = a.isNone := by cases a <;> rfl
  rw [h2]
  simp only [binOp]
  simp [h1]
/-- append of a list of complex numbers. -/
theorem l_appendCx {t e : TypeId} {z : Value} {by' : Nat} {l : List (Nat × Nat)} [u : Und P t (.slice e)] [f : Inf P e z 1 by'] {x y : Operand} {N : Nat} {xs : List Value} {vs : Value} (hw : wantG ops m g = some true) (hx : ev m x = some v) (hy : ev m y = some vs) (hd : Nat.blt d n = true)
    (hs : Nat.beq z.cells.size 1 = true) (hF : fList 1 rCx vs l ∈ F) (hu : ∀ v', Upd L (.row v e 1 N xs) (.row v' e 1 (N + l.length) (xs ++ l.map cx)) (LF v'))
    (h63 : N + l.length ≤ maxLen) (hb : (N + l.length) * by' ≤ 140737488355328)
    (h : ∀ v', RunL G n P ops Q rest ((d, v') :: m) (LF v') F) : RunL G n P ops Q (⟨some d, .call ⟨.builtin .append, #[x, y], #[t, t]⟩, ty, pos, af, g⟩ :: rest) m L F :=
  l_appendS hw hx hy hd hs rfl hu (fun a w st => by
    obtain ⟨ys, h1, h2, h3⟩ := src_list (st.facts _ hF)
    have : ys = l.map cx := by
      apply List.ext_getElem?
      intro i
      by_cases hi : i < l.length
      · have := h3 i l[i] (List.getElem?_eq_getElem hi)
        have hR : (ys.drop (i * 1)).take 1 = [cx l[i]] := this
        rw [Nat.mul_one] at hR
        have h0 : ((ys.drop i).take 1)[0]? = some (cx l[i]) := by rw [hR]; rfl
        rw [List.getElem?_take, if_pos (by omega), List.getElem?_drop] at h0
        simpa [hi] using h0
      · rw [List.getElem?_eq_none (by rw [h2]; omega), List.getElem?_eq_none (by simp; omega)]
    exact this ▸ h1) (by intro y hy; obtain ⟨q, _, rfl⟩ := List.mem_map.1 hy; rfl) h63 hb h
/-- A row that is lent beside what is taken. -/
theorem loanT {Lc Lr : List Own} (hL : Take L Lc Lr) {E : TypeId} {N : Nat} {l : List (Nat × Nat)} (hm : Own.row v E 1 N (l.map cx) ∈ Lr) : ∀ w, Owns w L → (fList 1 rCx v l).holds w (fun y => keys Lc y) := fun w hO => by
  obtain ⟨t1, t2, t3, t4⟩ := hL.split
  obtain ⟨u1, u2, u3⟩ := t4 hO.apart
  have hr : w.ownsRow 0 E 1 v N (l.map cx) := hO.all _ (t2 _ hm)
  have hN : N = l.length := by have := hr.1; simpa using this.symm
  rcases hr.2 with ⟨hv, h0⟩ | ⟨b, cap, cur, hv, _, hh, h1, h2, h3, h4⟩
  · have : l = [] := List.eq_nil_of_length_eq_zero (by omega)
    exact .inl ⟨⟨none, hv⟩, this⟩
  · have hk : keys Lr b := ⟨_, hm, by simp [Own.key, hv, Value.ownBlock]⟩
    refine .inr ⟨b, 0, cap, cur, E, (0, 0), by rw [hv, hN], by omega, h2, hh, fun hc => u3 b hc hk, by omega, fun i x hx => ?_⟩
    have := frz_cx (l := l) [] w (fun _ => False) (fun φ h => by cases h) i x hx
    have hi : i < l.length := (List.getElem?_eq_some_iff.1 hx).1
    have e : ((l.map cx).drop (i * 1)).take 1 = (cur.toList.drop (0 + i * 1)).take 1 := by
      rw [← h4, List.drop_take, List.take_take, Nat.zero_add]
      congr 1
      omega
    rw [← e]
    exact this
/-- A call that may read rows of one's own. -/
theorem l_callL {f : FuncId} {x : Operand} {xs : List Operand} {vs : List Value} {ts : Array TypeId} {Lc Lr : List Own} {Fc : List Fact} {post : Value → List Own → List Fact → Prop}
    (hw : wantG ops m g = some true) (hx : ev m x = some (.func (.func f) #[] #[])) (hv : Evs m xs vs) (hd : Nat.blt d n = true)
    (hs : Spec P f vs Lc Fc post) (hL : Take L Lc Lr) (hF : ∀ φ, φ ∈ Fc → φ ∈ F ∨ (∀ w, Owns w L → φ.holds w (fun y => keys Lc y))) (h0 : ∀ v L' F', post v L' F' → F' = [])
    (h : ∀ v L', post v L' [] → RunL G n P ops Q rest ((d, v) :: m) (L' ++ Lr) F) :
    RunL G n P ops Q (⟨some d, .call ⟨.value x, xs.toArray, ts⟩, ty, pos, af, g⟩ :: rest) m L F := by
  intro a w s
  have hwa := wantG_eq (o := ⟨some d, .call ⟨.value x, xs.toArray, ts⟩, ty, pos, af, g⟩) s.env rfl hw
  refine wpList_step fun K hK => ?_
  rw [if_pos hwa]
  unfold Oper.wp
  rw [run_call (first := []) (cap := []) hs.1 (s.env.eval hx) (hv.map s.env) w, Oper.upon_enter]
  have hvs : ([] ++ vs ++ [] : List Value) = vs := by simp
  rw [hvs]
  obtain ⟨t1, t2, t3, t4⟩ := hL.split
  obtain ⟨u1, u2, u3⟩ := t4 s.own.apart
  have kc : ∀ y, keys Lc y → keys L y := fun y ⟨o, ho, hy⟩ => ⟨o, t1 o ho, hy⟩
  have kr : ∀ y, keys Lr y → keys L y := fun y ⟨o, ho, hy⟩ => ⟨o, t2 o ho, hy⟩
  refine (hs.2 w (fun _ => False) (fun _ h => h.elim) ⟨fun o ho => s.own.all o (t1 o ho), u1⟩ ?_).mono ?_
  · intro φ hφ
    rcases hF φ hφ with h1 | h1
    · refine φ.stable (s.facts φ h1) ⟨Nat.le_refl _, fun _ _ _ => rfl, fun y _ hy => ?_⟩
      rcases hy with hy | hy
      · exact hy.elim
      · exact .inr (kc y hy)
    · refine φ.stable (h1 w s.own) ⟨Nat.le_refl _, fun _ _ _ => rfl, fun y _ hy => ?_⟩
      rcases hy with hy | hy
      · exact hy.elim
      · exact hy
  · rintro e w' ⟨v, L', F', rfl, hpost, hkeep, hown, hnew, hfacts⟩
    have := h0 v L' F' hpost
    subst this
    refine hK _ _ (h v L' hpost _ w' ?_)
    have hsame : ∀ y, keys Lr y → w'.heap[y]? = w.heap[y]? := fun y hy => hkeep.block y (s.own.lt (kr y hy)) fun hk => u3 y hk hy
    have hlr : Owns w' Lr := Owns.same ⟨fun o ho => s.own.all o (t2 o ho), u2⟩ hsame
    have hap : ∀ y, keys L' y → ¬ keys Lr y := fun y hy hk => by
      rcases hnew y hy with h | h
      · exact u3 y h hk
      · have := s.own.lt (kr y hk)
        omega
    have st : St G n m (L' ++ Lr) F a w' := by
      refine ⟨s.env, s.keep.trans hkeep fun y hy hk => (s.mine y (kc y hk)).resolve_right (by omega), ⟨fun o ho => ?_, ?_⟩, fun y hy => ?_, s.x, fun φ hφ => ?_⟩
      · rcases List.mem_append.1 ho with h | h
        · exact hown.all o h
        · exact hlr.all o h
      · have key : ∀ A : List Own, apart A → (∀ y, keys A y → ¬ keys Lr y) → apart (A ++ Lr) := by
          intro A
          induction A with
          | nil => exact fun _ _ => hlr.apart
          | cons p A ih =>
            intro hA hk
            refine ⟨fun y hy hk' => ?_, ih hA.2 fun y hy => hk y ((keys_cons _ _ _).2 (.inr hy))⟩
            rcases (keys_append _ _ _).1 hk' with h | h
            · exact hA.1 y hy h
            · exact hk y ((keys_cons _ _ _).2 (.inl hy)) h
        exact key L' hown.apart hap
      · rcases (keys_append _ _ _).1 hy with h | h
        · rcases hnew y h with h | h
          · exact s.mine y (kc y h)
          · exact .inr (Nat.le_trans s.keep.size h)
        · exact s.mine y (kr y h)
      · refine φ.stable (s.facts φ hφ) ⟨hkeep.size, fun y hy hn => hkeep.block y hy fun hk => hn (.inr (kc y hk)), fun y hy hm => ?_⟩
        rcases hm with hm | hm
        · exact .inl hm
        · rcases (keys_append _ _ _).1 hm with h | h
          · rcases hnew y h with h | h
            · exact .inr (kc y h)
            · omega
          · exact .inr (kr y h)
    exact st.put hd v
theorem l_callLM {f : FuncId} {x : Operand} {xs : List Operand} {vs : List Value} {ts : Array TypeId} {Lc Lr : List Own} {Fc : List Fact} {ι : Type} {fv : ι → Value} {L1 : ι → List Own}
    (hw : wantG ops m g = some true) (hx : ev m x = some (.func (.func f) #[] #[])) (hv : Evs m xs vs) (hd : Nat.blt d n = true) (hs : Spec P f vs Lc Fc (PM fv L1)) (hL : Take L Lc Lr) (hF : ∀ φ, φ ∈ Fc → φ ∈ F ∨ (∀ w, Owns w L → φ.holds w (fun y => keys Lc y)))
    (h : ∀ i : ι, RunL G n P ops Q rest ((d, fv i) :: m) (L1 i ++ Lr) F) : RunL G n P ops Q (⟨some d, .call ⟨.value x, xs.toArray, ts⟩, ty, pos, af, g⟩ :: rest) m L F :=
  l_callL hw hx hv hd hs hL hF (fun _ _ _ ⟨_, _, _, h⟩ => h) fun v L' ⟨i, h1, h2, _⟩ => by subst h1; subst h2; exact h i

/-! the greater of two floats -/
theorem datum_swap (a b : Datum) : b.order a = (a.order b).map Ordering.swap := by
  have hc : ∀ x y : Int, compare y x = (compare x y).swap := fun x y => by
    simp only [compare, compareOfLessAndEq]
    by_cases h1 : x < y
    · have h2 : ¬ y < x := by omega
      have h3 : ¬ y = x := by omega
      simp [h1, h2, h3, Ordering.swap]
    · by_cases h2 : x = y
      · subst h2; simp [Ordering.swap]
      · have h3 : y < x := by omega
        simp [h1, h2, h3, Ordering.swap]
  have hn : ∀ s t : Bool, compare t.toNat s.toNat = (compare s.toNat t.toNat).swap := by decide
  cases a with
  | nan s f => cases b <;> rfl
  | infinity s => cases b with
    | nan t f => rfl
    | infinity t => simp only [Datum.order, Option.map_some]; rw [hn t s]
    | number t m i => cases s <;> rfl
  | number s m i => cases b with
    | nan t f => rfl
    | infinity t => cases t <;> rfl
    | number t k j => simp only [Datum.order, Option.map_some]; rw [Int.min_comm j i, hc]
theorem order_swap (x y : Nat) : double.order y x = (double.order x y).map Ordering.swap := datum_swap _ _
theorem order_some {x y : Nat} (hx : nanB x = false) (hy : nanB y = false) : double.order x y ≠ none := by
  unfold nanB at hx hy
  unfold Format.order
  cases hrx : double.read x <;> cases hry : double.read y <;> simp_all [Datum.isNaN, Datum.order]
theorem l_fmax {x y : Operand} {ts : Array TypeId} {p q : Nat} (hw : wantG ops m g = some true) (hx : ev m x = some (.float .f64 p)) (hy : ev m y = some (.float .f64 q)) (hd : Nat.blt d n = true)
    (h : ∀ u : {r : Nat // (fcmp .gtr q p = true → nf r = nf q) ∧ (fcmp .gtr q p = false → nanB p = false → nanB q = false → (double.read p).neg = false → nf r = nf p)}, RunL G n P ops Q rest ((d, .float .f64 u.1) :: m) L F) :
    RunL G n P ops Q (⟨some d, .call ⟨.builtin .max, #[x, y], ts⟩, ty, pos, af, g⟩ :: rest) m L F :=
  l_step hw fun a w s => by
    have e : FloatKind.format .f64 = double := rfl
    have hs := order_swap p q
    cases ho : double.order p q with
    | none =>
      have hf : (Question.nanMinMax FloatKind.f64 true p q).forced = false := rfl
      simp [execOp, s.env.eval hx, s.env.eval hy, resolve, invoke, builtin, Builtin.max_, Builtin.max2, e, ho, hf]
      refine ⟨_, _, ⟨rfl, rfl⟩, h ⟨_, fun h1 => ?_, fun _ h2 h3 _ => absurd ho (order_some h2 h3)⟩ _ _ ((St.quiet (w' := w.drew) s ⟨rfl, rfl, rfl, Nat.le_refl _, fun _ _ _ => rfl⟩).put hd _)⟩
      simp [fcmp, hs, ho] at h1
    | some c =>
      have hrun : ∀ r, (match c with | .lt => q | .gt => p | .eq => if (double.read p).neg then q else p) = r → (execOp a.eval ⟨some d, .call ⟨.builtin .max, #[x, y], ts⟩, ty, pos, af, g⟩).run P w = .ok (.value (.float .f64 r)) w := fun r hr => by
        subst hr
        cases c <;> simp [execOp, s.env.eval hx, s.env.eval hy, resolve, invoke, builtin, Builtin.max_, Builtin.max2, e, ho, FloatKind.decode]
      refine ⟨_, w, hrun _ rfl, h ⟨_, fun h1 => ?_, fun h1 _ _ h4 => ?_⟩ _ _ (s.put hd _)⟩
      · cases c <;> simp [fcmp, hs, ho, Ordering.swap] at h1 ⊢
      · cases c <;> simp [fcmp, hs, ho, Ordering.swap, h4] at h1 ⊢
end

theorem between_spec (x lo hi : Int) : Spec Try.prog 55 [.int .i64 x, .int .i64 lo, .int .i64 hi] [] [] (Gives (.bool (decide (lo ≤ x) && decide (x ≤ hi)))) := by
  refine enter Try.func55 Try.ntmps55 rfl (by kernel_rfl) zCon rfl fun G => ?_
  all_goals ((try refine zR3 ?_) <;> (repeat' (with_reducible first | refine And.intro ?_ ?_ | intro _)))
  all_goals (refine e_gives rfl zRes ?_; simp [retVal, *])
theorem l01In_spec (x lo hi : Int) : Spec Try.prog 21 [.int .i64 x, .int .i64 lo, .int .i64 hi] [] [] (Gives (.bool (decide (lo ≤ x) && decide (x ≤ hi)))) := by
  refine enter Try.func21 Try.ntmps21 rfl (by kernel_rfl) zCon rfl fun G => ?_
  all_goals ((try refine zR3 ?_) <;> (repeat' (with_reducible first | refine And.intro ?_ ?_ | intro _)))
  all_goals (refine e_gives rfl zRes ?_; simp [retVal, *])
/-- A copy of a list. -/
abbrev PCopy (l : List (Nat × Nat)) : Value → List Own → List Fact → Prop := PM (fun v : {v : Value // IsSl v} => v.1) fun v => [.row v.1 47 1 l.length (l.map cx)]
theorem Clone_spec (v : Value) (l : List (Nat × Nat)) (hl : l.length ≤ 1000) : Spec Try.prog 56 [v] [] [fList 1 rCx v l] (PCopy l) := by
  refine enter Try.func56 Try.ntmps56 rfl (by kernel_rfl) zCon rfl fun G => ?_
  refine c_isList (v := v) zMem fun hsv => ?_
  all_goals ((try refine zR3 ?_) <;> (repeat' (with_reducible first | refine And.intro ?_ ?_ | intro _)))
  refine l_eqNil rfl rfl rfl rfl hsv ?_
  all_goals ((try refine zR3 ?_) <;> (repeat' (with_reducible first | refine And.intro ?_ ?_ | intro _)))
  · refine ends_nilList (v := v) zMem (by assumption) fun hl0 => ?_
    subst hl0
    refine ends_nilRow (e := 47) 1 ?_
    exact e_pm ⟨.slice none 0 0, ⟨_, _, _, rfl⟩⟩ rfl zRes zTake rfl
  · refine l_appendCx rfl rfl rfl rfl rfl zMem (fun _ => .head) (by simp [maxLen]; omega) (by omega) fun v' => ?_
    refine l_isRow (v := v') (.own (.head _)) fun hsv' _ => ?_
    all_goals ((try refine zR3 ?_) <;> (repeat' (with_reducible first | refine And.intro ?_ ?_ | intro _)))
    rw [Nat.zero_add, List.nil_append]
    exact e_pm ⟨v', hsv'⟩ rfl zRes zTake rfl
abbrev fieldV : Value := .agg #[fnv 33, fnv 34, fnv 35, fnv 36, fnv 37, fnv 38, fnv 39, fnv 40]
theorem wideField_spec : Spec Try.prog 18 [] [] [] (PU fieldV) := by
  refine enter Try.func18 Try.ntmps18 rfl (by kernel_rfl) zCon rfl fun G => ?_
  all_goals ((try refine zR3 ?_) <;> (repeat' (with_reducible first | refine And.intro ?_ ?_ | intro _)))
  exact e_pm () rfl zRes .nil rfl
theorem newSheet_spec : Spec Try.prog 31 [fieldV] [] [] (PM (fun b : Nat => pt b) fun b => [oSh b 0]) := by
  refine enter Try.func31 Try.ntmps31 rfl (by kernel_rfl) zCon rfl fun G => ?_
  all_goals ((try refine zR3 ?_) <;> (repeat' (with_reducible first | refine And.intro ?_ ?_ | intro _)))
  exact e_pm _ rfl zRes zTake rfl
/-- The error of a polynomial, points and a kind. -/
def codeP (p l : List (Nat × Nat)) (kind : Int) : Int := if (isP p && l.all cfin) = false then 1 else if l.length + 1 ≠ p.length ∨ ¬ (kind = 0 ∨ kind = 1) then 2 else 0
theorem togetherCode_spec (vp vl : Value) (p l : List (Nat × Nat)) (kind : Int) : Spec Try.prog 29 [fieldV, vp, vl, .int .i64 kind] [] [fList 1 rCx vp p, fList 1 rCx vl l] (Gives (.int .i64 (codeP p l kind))) := by
  refine enter Try.func29 Try.ntmps29 rfl (by kernel_rfl) zCon rfl fun G => ?_
  refine c_isList (v := vp) zMem fun hsp => ?_
  refine c_isList (v := vl) zMem fun hsl => ?_
  refine c_lenList (v := vp) zMem fun hlp => ?_
  refine c_lenList (v := vl) zMem fun hll => ?_
  have hb := between_spec kind 0 1
  have hw := wide2_spec vp vl p l
  all_goals (((try refine zR3 ?_) <;> (repeat' (with_reducible first | refine And.intro ?_ ?_ | intro _))) <;> (repeat' ((first | ((with_reducible apply l_callM); exact rfl; exact rfl; exact zEvs; exact rfl; (apply hw); (case hL => exact zTake); (case hF => exact zFsub); (with_reducible intro _); (try any_goals (refine propId ?_; omega))) | ((with_reducible apply l_callP); exact rfl; exact zEvs; exact rfl; (with_reducible apply hb); (case hF => exact zFsub); (try any_goals (refine propId ?_; omega)))) <;> ((try refine zR3 ?_) <;> (repeat' (with_reducible first | refine And.intro ?_ ?_ | intro _))))))
  all_goals (refine e_gives rfl zRes ?_; simp only [retVal, codeP]; congr 1)
  · rw [if_pos (by assumption)]
  · rw [if_neg (by simp [*]), if_pos (.inl (by omega))]
  · rename_i h
    simp only [Bool.and_eq_false_iff, decide_eq_false_iff_not] at h
    rw [if_neg (by simp [*]), if_pos (.inr (by omega))]
  · rename_i h
    simp only [Bool.and_eq_true, decide_eq_true_eq] at h
    rw [if_neg (by simp [*]), if_neg (by omega)]
theorem runCode_spec (r : Bool) (x : Nat) (most : Int) : Spec Try.prog 30 [.bool r, .float .f64 x, .int .i64 most] [] [] (Gives (.int .i64 (if r = false then 1 else if fcmp .lss x 0 = true ∨ ¬ (0 ≤ most ∧ most ≤ 200) then 2 else 0))) := by
  refine enter Try.func30 Try.ntmps30 rfl (by kernel_rfl) zCon rfl fun G => ?_
  have hb := between_spec most 0 200
  all_goals (((try refine zR3 ?_) <;> (repeat' (with_reducible first | refine And.intro ?_ ?_ | intro _))) <;> (repeat' ((first | ((with_reducible apply l_callP); exact rfl; exact zEvs; exact rfl; (with_reducible apply hb); (case hF => exact zFsub); (try any_goals (refine propId ?_; omega)))) <;> ((try refine zR3 ?_) <;> (repeat' (with_reducible first | refine And.intro ?_ ?_ | intro _))))))
  all_goals (refine e_gives rfl zRes ?_; simp only [retVal]; congr 1)
  · rw [if_pos (by assumption)]
  · rw [if_neg (by simp [*]), if_pos (.inl (by assumption))]
  · rename_i h
    simp only [Bool.and_eq_false_iff, decide_eq_false_iff_not] at h
    rw [if_neg (by simp [*]), if_pos (.inr (by omega))]
  · rename_i h0 h
    simp only [Bool.and_eq_true, decide_eq_true_eq] at h
    rw [if_neg (by simp [*]), if_neg (by rw [h0]; simp; omega)]
end Go.Proofs.Ytbclejclkicgnaa.K
end

section
/- The program's steps. -/
namespace Go.Proofs.Ytbclejclkicgnaa.K
open Go Go.RowKit Ieee
set_option linter.all false

section
variable {G : Ctx} {n : Nat} {m : Regs} {L L1 Lr : List Own} {F : List Fact} {a : Act} {w : World} {Q : Post}
/-- What is owned may be named in another order, and left. -/
theorem St.taken (s : St G n m L F a w) (hT : Take L L1 Lr) : St G n m L1 F a w := by
  obtain ⟨t1, t2, t3, t4⟩ := hT.split
  obtain ⟨u1, u2, u3⟩ := t4 s.own.apart
  have kc : ∀ y, keys L1 y → keys L y := fun y ⟨o, ho, hy⟩ => ⟨o, t1 o ho, hy⟩
  refine ⟨s.env, s.keep, ⟨fun o ho => s.own.all o (t1 o ho), u1⟩, fun y hy => s.mine y (kc y hy), s.x, fun φ hφ => φ.stable (s.facts φ hφ) ⟨Nat.le_refl _, fun _ _ _ => rfl, fun y _ hy => ?_⟩⟩
  rcases hy with hy | hy
  · exact .inl hy
  · exact .inr (kc y hy)
theorem e_againT {ι : Type} {mI : ι → Regs} {LI : ι → List Own} {FI : ι → List Fact} {μ : ι → Nat} {k : Nat} (i' : ι) (hμ : μ i' < k) (hm : ∀ t v, look (mI i') t = some v → look m t = some v) (hL : Take L (LI i') Lr) (hF : ∀ φ, φ ∈ FI i' → φ ∈ F) :
    Ends G n (Exit.then (fun a w => ∃ i', μ i' < k ∧ St G n (mI i') (LI i') (FI i') a w) Q) .normal m L F :=
  fun _ _ s => ⟨i', hμ, (s.taken hL).sub hm hF⟩
theorem e_outT {κ : Type} {mE : κ → Regs} {LE : κ → List Own} {FE : κ → List Fact} (k : κ) (hm : ∀ t v, look (mE k) t = some v → look m t = some v) (hL : Take L (LE k) Lr) (hF : ∀ φ, φ ∈ FE k → φ ∈ F) :
    Ends G n (Exit.then (fun a w => ∃ k, St G n (mE k) (LE k) (FE k) a w) Q) .normal m L F :=
  fun _ _ s => ⟨k, (s.taken hL).sub hm hF⟩
theorem St.startT {m' : Regs} {F' : List Fact} (s : St G n m L F a w) (hm : ∀ t v, look m' t = some v → look m t = some v) (hL : Take L L1 Lr) (hF : ∀ φ, φ ∈ F' → φ ∈ F) : St G n m' L1 F' a w := (s.taken hL).sub hm hF
end
theorem nf2_zero : nf2 (0, 0) = (0, 0) := by decide +kernel
theorem lget_map (l : List (Nat × Nat)) (i : Nat) : lget (l.map nf2) i = nf2 (lget l i) := by
  unfold lget
  rw [List.getD_eq_getElem?_getD, List.getD_eq_getElem?_getD, List.getElem?_map]
  cases l[i]? with
  | none => exact nf2_zero.symm
  | some y => rfl
theorem hStep_z (z : Nat × Nat) (g : Nat → Nat × Nat) (gc : Int → Nat → Int) (s : (Nat × Nat) × Int) (k : Nat) : hStep (nf2 z) g gc s k = hStep z g gc s k := by simp only [hStep, cmul_r]
theorem hLoop_z (z : Nat × Nat) (g : Nat → Nat × Nat) (gc : Int → Nat → Int) (la : Nat) : ∀ (n : Nat) (s : (Nat × Nat) × Int), hLoop (nf2 z) g gc la n s = hLoop z g gc la n s
  | 0, _ => rfl
  | n + 1, s => by simp only [hLoop, hStep_z]; exact hLoop_z z g gc la n _
theorem pVal_z (p : List (Nat × Nat)) (z : Nat × Nat) (c : Int) : pVal p (nf2 z) c = pVal p z c := hLoop_z _ _ _ _ _ _
theorem pSlope_z (p : List (Nat × Nat)) (z : Nat × Nat) (c : Int) : pSlope p (nf2 z) c = pSlope p z c := hLoop_z _ _ _ _ _ _
theorem jFold_map (f f' : (Nat × Nat) × Int → Nat × Nat → (Nat × Nat) × Int) (h : ∀ s w, f s (nf2 w) = f' s w) (i : Nat) : ∀ (l : List (Nat × Nat)) (j : Nat) (s : (Nat × Nat) × Int), jFold f i j (l.map nf2) s = jFold f' i j l s
  | [], _, _ => rfl
  | w :: r, j, s => by simp only [List.map_cons, jFold, h]; exact jFold_map f f' h i r _ _
theorem wStep_x (x : Nat × Nat) (s : (Nat × Nat) × Int) (w : Nat × Nat) : wStep (nf2 x) s (nf2 w) = wStep x s w := by simp only [wStep, csub_l, csub_r]
theorem eStep_x (x : Nat × Nat) (s : (Nat × Nat) × Int) (w : Nat × Nat) : eStep (nf2 x) s (nf2 w) = eStep x s w := by simp only [eStep, csub_l, csub_r]
theorem corr_map (p l : List (Nat × Nat)) (kind : Int) (i : Nat) (c : Int) : corr p (l.map nf2) kind i c = corr p l kind i c := by
  unfold corr corrW corrE
  simp only [lget_map, pVal_z, pSlope_z, jFold_map _ _ (wStep_x _), jFold_map _ _ (eStep_x _)]
theorem correction_spec (b : Nat) (c : Int) (vp vl : Value) (p l : List (Nat × Nat)) (kind : Int) (i : Nat) (h1 : 2 ≤ p.length) (h2 : p.length ≤ 13) (hl : l.length ≤ 13) (hi : i < l.length) :
    Spec Try.prog 62 [pt b, vp, vl, .int .i64 kind, .int .i64 (i : Int)] [oSh b c] [fList 1 rCx vp p, fList 1 rCx vl l] (PSh b (nf2 (corr p l kind i c).1) (corr p l kind i c).2) := by
  unfold corr
  by_cases hk : kind = 0
  · subst hk
    rw [if_pos rfl]
    exact correctionW_spec b c vp vl p l i (by omega) h2 hl hi
  · rw [if_neg hk]
    exact correctionE_spec b c vp vl p l kind hk i h1 h2 hl hi

/-! ### steps -/
/-- The code behind a correction, and the way moved. -/
def sCode (c : (Nat × Nat) × Int) (x : Nat × Nat) : Int := if lk c.2 (csub x c.1) = 0 ∧ ffin (csize c.1) = false then 3 else lk c.2 (csub x c.1)
def sMove (c : (Nat × Nat) × Int) (mv : Nat) : Nat := bif fcmp .gtr (csize c.1) mv then csize c.1 else mv
/-- The rest of a step: the points, the move and the code. -/
def sLoop (p l : List (Nat × Nat)) (kind : Int) (turn : Bool) : Nat → List (Nat × Nat) × Nat → (List (Nat × Nat) × Nat) × Int
  | 0, s => (s, 0)
  | n + 1, s => if sCode (corr p (bif turn then s.1 else l) kind (l.length - (n + 1)) 0) (lget l (l.length - (n + 1))) = 0 then
      sLoop p l kind turn n (s.1.set (l.length - (n + 1)) (csub (lget l (l.length - (n + 1))) (corr p (bif turn then s.1 else l) kind (l.length - (n + 1)) 0).1), sMove (corr p (bif turn then s.1 else l) kind (l.length - (n + 1)) 0) s.2)
    else (s, sCode (corr p (bif turn then s.1 else l) kind (l.length - (n + 1)) 0) (lget l (l.length - (n + 1))))
def stepP (p l : List (Nat × Nat)) (kind : Int) (turn : Bool) : (List (Nat × Nat) × Nat) × Int := sLoop p l kind turn l.length (l.map nf2, 0)

/-! sizes have no sign -/
theorem word_pos (r : Nat) (h : r ≤ double.infRung) : double.word false r < 9223372036854775808 := by
  show r < _
  rw [ir] at h
  omega
theorem nearest_pos (mag : Nat) (place : Int) : double.nearest false mag place < 9223372036854775808 := by
  unfold Format.nearest
  split
  · exact word_pos _ (Nat.zero_le _)
  · exact word_pos _ (Nat.min_le_right _ _)
theorem sg_pos (m k : Nat) : 0 ≤ signed false m k := Int.natCast_nonneg _
theorem sum_pos {a b c : Datum} (ha : a.neg = false) (hb : b.neg = false) (h : a.sum b = some c) : c.neg = false := by
  cases a with
  | nan s f => cases b <;> simp [Datum.sum] at h
  | infinity s =>
    have hs : s = false := ha
    subst hs
    cases b with
    | nan t f => simp [Datum.sum] at h
    | infinity t =>
      have ht : t = false := hb
      subst ht
      simp [Datum.sum] at h
      subst h; rfl
    | number t m i =>
      simp [Datum.sum] at h
      subst h; rfl
  | number s m i =>
    have hs : s = false := ha
    subst hs
    cases b with
    | nan t f => simp [Datum.sum] at h
    | infinity t =>
      have ht : t = false := hb
      subst ht
      simp [Datum.sum] at h
      subst h; rfl
    | number t k j =>
      have ht : t = false := hb
      subst ht
      simp only [Datum.sum, Option.some.injEq] at h
      subst h
      have h1 := sg_pos m (i - min i j).toNat
      have h2 := sg_pos k (j - min i j).toNat
      show (if _ then _ else _) = false
      split
      · rfl
      · exact decide_eq_false (by omega)
theorem write_pos {d : Datum} (hn : d.isNaN = false) (h : d.neg = false) : double.write d < 9223372036854775808 := by
  cases d with
  | nan s f => cases hn
  | infinity s =>
    have hs : s = false := h
    subst hs
    exact word_pos _ (Nat.le_refl _)
  | number s m p =>
    have hs : s = false := h
    subst hs
    exact nearest_pos m p
theorem add_pos {x y : Nat} (hx : (double.read x).neg = false ∨ nanB x = true) (hy : (double.read y).neg = false ∨ nanB y = true) : fop .add x y < 9223372036854775808 := by
  by_cases h1 : nanB x = true
  · unfold fop; rw [fb_nanL h1]; decide
  by_cases h2 : nanB y = true
  · unfold fop; rw [fb_nanR h2]; decide
  have hx := hx.resolve_right h1
  have hy := hy.resolve_right h2
  have e : floatBits .add .f64 x y = ((double.read x).sum (double.read y)).map double.write := rfl
  unfold fop
  rw [e]
  cases hs : (double.read x).sum (double.read y) with
  | none => show NAN < _; decide
  | some c => exact write_pos (sum_num hs) (sum_pos hx hy hs)
theorem absB_neg (x : Nat) : (double.read (absB x)).neg = false := by
  rw [read_neg', absB_eq]
  have : x % 9223372036854775808 / 9223372036854775808 = 0 := Nat.div_eq_of_lt (Nat.mod_lt _ (by decide))
  rw [this]; rfl
theorem fabs_neg (x : Nat) : (double.read (fabs x)).neg = false ∨ nanB (fabs x) = true := by
  unfold fabs
  cases h : nanB (absB x) with
  | true => right; rw [nanB_nf, h]
  | false => left; rw [read_nf h]; exact absB_neg x
theorem csize_pos (z : Nat × Nat) : csize z < 9223372036854775808 := add_pos (fabs_neg _) (fabs_neg _)
theorem neg_of_pos {m e : Nat} (h : nf m = e) (he : e < 9223372036854775808) (hn : nanB m = false) : (double.read m).neg = false := by
  rw [← read_nf hn, h, read_neg', Nat.div_eq_of_lt he]
  rfl
theorem ffin_nan {x : Nat} (h : ffin x = true) : nanB x = false := by
  cases hn : nanB x with
  | false => rfl
  | true =>
    exfalso
    have e : fop .sub x x = NAN := by unfold fop; rw [fb_nanL hn]; rfl
    unfold ffin at h
    rw [e] at h
    revert h
    decide +kernel
theorem sMove_pos (c : (Nat × Nat) × Int) {mv : Nat} (h : mv < 9223372036854775808) : sMove c mv < 9223372036854775808 := by
  unfold sMove
  cases fcmp .gtr (csize c.1) mv
  · exact h
  · exact csize_pos _
end Go.Proofs.Ytbclejclkicgnaa.K
end

section
/- The program's steps: the walk. -/
namespace Go.Proofs.Ytbclejclkicgnaa.K
open Go Go.RowKit
set_option linter.all false
set_option maxRecDepth 4000
set_option maxHeartbeats 1000000

theorem lent1L {L Lc : List Own} {F : List Fact} {φ χ : Fact} (h : φ ∈ F) (h' : ∀ w, Owns w L → χ.holds w (fun y => keys Lc y)) : ∀ ψ, ψ ∈ [φ, χ] → ψ ∈ F ∨ (∀ w, Owns w L → ψ.holds w (fun y => keys Lc y)) := fun ψ hψ => by
  cases hψ with
  | head => exact .inl h
  | tail _ hψ => rw [List.mem_singleton.1 hψ]; exact .inr h'
theorem if_true_of {b : Bool} {x y : Nat} (h : b = true) : (bif b then x else y) = x := by subst h; rfl
theorem if_false_of {b : Bool} {x y : Nat} (h : b = false) : (bif b then x else y) = y := by subst h; rfl
theorem sCode_nf (c : (Nat × Nat) × Int) (x : Nat × Nat) : sCode (nf2 c.1, c.2) x = sCode c x := by simp only [sCode, csub_r, csize_nf]
theorem sMove_nf (c : (Nat × Nat) × Int) (mv : Nat) : sMove (nf2 c.1, c.2) mv = sMove c mv := by simp only [sMove, csize_nf]
theorem sLoop_go {p l : List (Nat × Nat)} {kind : Int} {turn : Bool} {n : Nat} {s : List (Nat × Nat) × Nat} {i : Nat} (hi : i = l.length - (n + 1)) {c : (Nat × Nat) × Int} (hc : corr p (bif turn then s.1 else l) kind i 0 = c) (h0 : sCode c (lget l i) = 0) :
    sLoop p l kind turn (n + 1) s = sLoop p l kind turn n (s.1.set i (csub (lget l i) c.1), sMove c s.2) := by
  subst hi; subst hc
  rw [sLoop, if_pos h0]
theorem sLoop_stop {p l : List (Nat × Nat)} {kind : Int} {turn : Bool} {n : Nat} {s : List (Nat × Nat) × Nat} {i : Nat} (hi : i = l.length - (n + 1)) {c : (Nat × Nat) × Int} (hc : corr p (bif turn then s.1 else l) kind i 0 = c) (h0 : sCode c (lget l i) ≠ 0) :
    sLoop p l kind turn (n + 1) s = (s, sCode c (lget l i)) := by
  subst hi; subst hc
  rw [sLoop, if_neg h0]
/-- What a step hands back: points, a move, and the code on the sheet. -/
abbrev PStep (b N : Nat) (fin : (List (Nat × Nat) × Nat) × Int) : Value → List Own → List Fact → Prop :=
  PM (fun u : {u : Value × List (Nat × Nat) × Nat // IsSl u.1 ∧ u.2.1.length = N ∧ (fin.2 = 0 → u.2.1.map nf2 = fin.1.1 ∧ nf u.2.2 = fin.1.2)} => .tuple #[u.1.1, .float .f64 u.1.2.2]) fun u => [.row u.1.1 47 1 N (u.1.2.1.map cx), oSh b fin.2]
theorem step_spec (b : Nat) (vp vl : Value) (p l : List (Nat × Nat)) (kind : Int) (turn : Bool) (h1 : 2 ≤ p.length) (h2 : p.length ≤ 13) (hl : l.length ≤ 13) :
    Spec Try.prog 46 [pt b, vp, vl, .int .i64 kind, .bool turn] [oSh b 0] [fList 1 rCx vp p, fList 1 rCx vl l] (PStep b l.length (stepP p l kind turn)) := by
  obtain ⟨fin, hfin⟩ : ∃ r, r = stepP p l kind turn := ⟨_, rfl⟩
  rw [← hfin]
  refine enter Try.func46 Try.ntmps46 rfl (by kernel_rfl) zCon rfl fun G => ?_
  refine c_isList (v := vp) zMem fun hsp => ?_
  refine c_isList (v := vl) zMem fun hsl => ?_
  refine c_lenList (v := vp) zMem fun hlp => ?_
  refine c_lenList (v := vl) zMem fun hll => ?_
  have hcl := Clone_spec vl l (by omega)
  all_goals (((try refine zR3 ?_) <;> (repeat' (with_reducible first | refine And.intro ?_ ?_ | intro _))) <;> (repeat' ((first | ((with_reducible apply l_callM); exact rfl; exact rfl; exact zEvs; exact rfl; (apply hcl); (case hL => exact zTake); (case hF => exact zFsub); (with_reducible intro _); (try any_goals (refine propId ?_; omega)))) <;> ((try refine zR3 ?_) <;> (repeat' (with_reducible first | refine And.intro ?_ ?_ | intro _))))))
  rename_i v' _
  obtain ⟨v', hsv⟩ := v'
  dsimp only
  refine c_while (ι := {s : Nat × List (Nat × Nat) × Nat // s.1 ≤ l.length ∧ s.2.1.length = l.length ∧ s.2.1.drop s.1 = l.drop s.1 ∧ nf s.2.2 < 9223372036854775808 ∧ nanB s.2.2 = false ∧ sLoop p l kind turn (l.length - s.1) (s.2.1.map nf2, nf s.2.2) = fin}) (κ := {u : List (Nat × Nat) × Nat // u.1.length = l.length ∧ (fin.2 = 0 → u.1.map nf2 = fin.1.1 ∧ nf u.2 = fin.1.2)})
    (fun s => [(23, .int .i64 (s.1.1 : Int)), (13, .float .f64 s.1.2.2), (22, .int .i64 (l.length : Int)), (12, v'), (0, pt b), (1, vp), (2, vl), (3, .int .i64 kind), (4, .bool turn)]) (fun s => [.row v' 47 1 l.length (s.1.2.1.map cx), oSh b 0]) (fun _ => [fList 1 rCx vp p, fList 1 rCx vl l]) (fun s => l.length - s.1.1)
    (fun u => [(12, v'), (13, .float .f64 u.1.2)]) (fun u => [.row v' 47 1 l.length (u.1.1.map cx), oSh b fin.2]) (fun _ => [fList 1 rCx vp p, fList 1 rCx vl l])
    ⟨(0, l, floatOfInt .f64 0), Nat.zero_le _, rfl, rfl, ?_, ?_, ?_⟩ (fun _ _ s => s.start zSub zRfl zFsub) ?_ ?_
  · show nf (floatOfInt .f64 0) < _
    decide +kernel
  · show nanB (floatOfInt .f64 0) = false
    decide +kernel
  · rw [ofInt_zero, hfin]; rfl
  · rintro ⟨⟨i, lo, mv⟩, hi, hlo, hdrop, hmv, hmn, hinv⟩
    dsimp only at hi hlo hdrop hmv hmn hinv ⊢
    by_cases hi' : i < l.length
    · obtain ⟨k, hk⟩ : ∃ k, l.length - i = k + 1 := ⟨l.length - i - 1, by omega⟩
      have hik : i = l.length - (k + 1) := by omega
      rw [hk] at hinv
      obtain ⟨x, hx⟩ : ∃ x, l[i]? = some x := ⟨_, List.getElem?_eq_getElem hi'⟩
      have hxo : lo[i]? = some x := by
        have h3 : (lo.drop i)[0]? = (l.drop i)[0]? := by rw [hdrop]
        rw [List.getElem?_drop, List.getElem?_drop] at h3
        simpa [hx] using h3
      obtain ⟨c, hc⟩ : ∃ c, c = corr p (bif turn then lo else l) kind i 0 := ⟨_, rfl⟩
      have hc' : corr p (bif turn then (lo.map nf2, nf mv).1 else l) kind i 0 = c := by
        rw [hc]
        cases turn
        · rfl
        · exact corr_map p lo kind i 0
      all_goals ((try refine zR3 ?_) <;> (repeat' (with_reducible first | refine And.intro ?_ ?_ | intro _)))
      all_goals (first | (exfalso; omega) | skip)
      · have ht : turn = true := by assumption
        subst ht
        have hc2 : corr p lo kind i 0 = c := hc.symm
        have hspec := correction_spec b 0 vp v' p lo kind i h1 h2 (by omega) (by omega)
        rw [hc2] at hspec
        refine l_callLM rfl rfl zEvs rfl hspec (.cons (.tail .head) .nil) (lent1L zMem (loanT (.cons (.tail .head) .nil) (.head _))) fun u => ?_
        all_goals (((try refine zR3 ?_) <;> (repeat' (with_reducible first | refine And.intro ?_ ?_ | intro _))) <;> (repeat' ((first | ((with_reducible apply l_callM); exact rfl; exact rfl; exact zEvs; exact rfl; (apply minus_spec); (case hL => exact zTake); (case hF => exact zFsub); (with_reducible intro _); (try any_goals (refine propId ?_; omega)))) <;> ((try refine zR3 ?_) <;> (repeat' (with_reducible first | refine And.intro ?_ ?_ | intro _))))))
        rename_i z
        have e1 : csub (x.1, x.2) (u.1.1, u.1.2) = csub x c.1 := (u.subr _ _).trans (csub_r _ _)
        have hz : nf2 z.1 = csub x c.1 := z.eq.trans e1
        obtain ⟨z, hz'⟩ := z
        dsimp only at hz ⊢
        clear hz'
        rw [e1]
        have hcs : csize (u.1.1, u.1.2) = csize c.1 := by
          rw [← csize_nf]
          have : nf2 (u.1.1, u.1.2) = nf2 c.1 := u.eq
          rw [this, csize_nf]
        obtain ⟨k3, hk3⟩ : ∃ k3, k3 = lk c.2 (csub x c.1) := ⟨_, rfl⟩
        rw [← hk3]
        have hset : (lo.map nf2).set i (csub (lget l i) c.1) = (lo.set i z).map nf2 := by rw [lget_get hx, ← hz, List.map_set]
        have hsc : sCode c (lget l i) = if k3 = 0 ∧ ffin (csize c.1) = false then 3 else k3 := by rw [lget_get hx, hk3]; rfl
        all_goals (((try refine zR3 ?_) <;> (repeat' (with_reducible first | refine And.intro ?_ ?_ | intro _))) <;> (repeat' ((first | ((with_reducible apply l_callM); exact rfl; exact rfl; exact zEvs; exact rfl; (apply sizeOf_spec); (case hL => exact zTake); (case hF => exact zFsub); (with_reducible intro _); (try any_goals (refine propId ?_; omega)))) <;> ((try refine zR3 ?_) <;> (repeat' (with_reducible first | refine And.intro ?_ ?_ | intro _))))))
        · rename_i y hk0 w hf
          have hyf : ffin (csize c.1) = false := by
            rw [← hcs, ← y.fin]
            unfold ffin
            rw [← w.cl]
            exact hf
          have hs : sCode c (lget l i) = 3 := by rw [hsc, if_pos ⟨hk0, hyf⟩]
          have hfin2 : fin.2 = 3 := by rw [← hinv, sLoop_stop hik hc' (by rw [hs]; decide)]; exact hs
          refine l_fmax rfl rfl rfl rfl fun mm => ?_
          all_goals ((try refine zR3 ?_) <;> (repeat' (with_reducible first | refine And.intro ?_ ?_ | intro _)))
          refine e_outT (Lr := []) ⟨(lo.set i z, mm.1), by simp [hlo], fun h => absurd (hfin2.symm.trans h) (by decide)⟩ zSub ?_ zFsub
          dsimp only
          rw [hfin2]
          exact zTake
        · rename_i y hk0 w hf
          have hyf : ffin y.1 = true := by
            unfold ffin
            rw [← w.cl]
            exact hf
          have hyc : ffin (csize c.1) = true := by rw [← hcs, ← y.fin]; exact hyf
          have hs : sCode c (lget l i) = 0 := by rw [hsc, if_neg (fun h => by rw [hyc] at h; cases h.2)]; exact hk0
          rw [sLoop_go hik hc' hs] at hinv
          have hy : nf y.1 = csize c.1 := y.2.trans hcs
          refine l_fmax rfl rfl rfl rfl fun mm => ?_
          have hg : fcmp .gtr y.1 mv = fcmp .gtr (csize c.1) (nf mv) := fcmp_eq (hy.trans (nf_csize _).symm) (nf_nf _).symm
          have hmm : nf mm.1 = sMove c (nf mv) := by
            unfold sMove
            rw [← hg]
            rcases Bool.eq_false_or_eq_true (fcmp .gtr y.1 mv) with hgv | hgv
            · rw [if_true_of hgv]; exact (mm.2.1 hgv).trans hy
            · rw [if_false_of hgv]; exact mm.2.2 hgv hmn (ffin_nan hyf) (neg_of_pos rfl hmv hmn)
          have hmn' : nanB mm.1 = false := by
            rcases Bool.eq_false_or_eq_true (fcmp .gtr y.1 mv) with hgv | hgv
            · rw [← nanB_nf, mm.2.1 hgv, nanB_nf]; exact ffin_nan hyf
            · rw [← nanB_nf, mm.2.2 hgv hmn (ffin_nan hyf) (neg_of_pos rfl hmv hmn), nanB_nf]; exact hmn
          all_goals ((try refine zR3 ?_) <;> (repeat' (with_reducible first | refine And.intro ?_ ?_ | intro _)))
          · exact absurd hk0 (by assumption)
          · have hn : l.length - (i + 1) = k := by omega
            refine e_againT (Lr := []) ⟨(i + 1, lo.set i z, mm.1), hi', by simp [hlo], ?_, by rw [hmm]; exact sMove_pos c hmv, hmn', ?_⟩ (by dsimp only; omega) zSub (by rw [hk0]; exact zTake) zFsub
            · dsimp only
              rw [List.drop_set_of_lt (by omega)]
              have h3 : (lo.drop i).drop 1 = (l.drop i).drop 1 := by rw [hdrop]
              simpa [List.drop_drop] using h3
            · dsimp only
              rw [hn, hmm, ← hset]
              exact hinv
        · rename_i y hk0
          have hs : sCode c (lget l i) = k3 := by rw [hsc, if_neg (fun h => hk0 h.1)]
          have hfin2 : fin.2 = k3 := by rw [← hinv, sLoop_stop hik hc' (by rw [hs]; exact hk0)]; exact hs
          refine l_fmax rfl rfl rfl rfl fun mm => ?_
          all_goals ((try refine zR3 ?_) <;> (repeat' (with_reducible first | refine And.intro ?_ ?_ | intro _)))
          · refine e_outT (Lr := []) ⟨(lo.set i z, mm.1), by simp [hlo], fun h => absurd (hfin2.symm.trans h) hk0⟩ zSub ?_ zFsub
            dsimp only
            rw [hfin2]
            exact zTake
          · exact absurd (Decidable.of_not_not (by assumption)) hk0
      · have ht : turn = false := by assumption
        subst ht
        have hc2 : corr p l kind i 0 = c := hc.symm
        have hspec := correction_spec b 0 vp vl p l kind i h1 h2 (by omega) hi'
        rw [hc2] at hspec
        refine l_callM rfl rfl zEvs rfl hspec zTake zFsub fun u => ?_
        all_goals (((try refine zR3 ?_) <;> (repeat' (with_reducible first | refine And.intro ?_ ?_ | intro _))) <;> (repeat' ((first | ((with_reducible apply l_callM); exact rfl; exact rfl; exact zEvs; exact rfl; (apply minus_spec); (case hL => exact zTake); (case hF => exact zFsub); (with_reducible intro _); (try any_goals (refine propId ?_; omega)))) <;> ((try refine zR3 ?_) <;> (repeat' (with_reducible first | refine And.intro ?_ ?_ | intro _))))))
        rename_i z
        have e1 : csub (x.1, x.2) (u.1.1, u.1.2) = csub x c.1 := (u.subr _ _).trans (csub_r _ _)
        have hz : nf2 z.1 = csub x c.1 := z.eq.trans e1
        obtain ⟨z, hz'⟩ := z
        dsimp only at hz ⊢
        clear hz'
        rw [e1]
        have hcs : csize (u.1.1, u.1.2) = csize c.1 := by
          rw [← csize_nf]
          have : nf2 (u.1.1, u.1.2) = nf2 c.1 := u.eq
          rw [this, csize_nf]
        obtain ⟨k3, hk3⟩ : ∃ k3, k3 = lk c.2 (csub x c.1) := ⟨_, rfl⟩
        rw [← hk3]
        have hset : (lo.map nf2).set i (csub (lget l i) c.1) = (lo.set i z).map nf2 := by rw [lget_get hx, ← hz, List.map_set]
        have hsc : sCode c (lget l i) = if k3 = 0 ∧ ffin (csize c.1) = false then 3 else k3 := by rw [lget_get hx, hk3]; rfl
        all_goals (((try refine zR3 ?_) <;> (repeat' (with_reducible first | refine And.intro ?_ ?_ | intro _))) <;> (repeat' ((first | ((with_reducible apply l_callM); exact rfl; exact rfl; exact zEvs; exact rfl; (apply sizeOf_spec); (case hL => exact zTake); (case hF => exact zFsub); (with_reducible intro _); (try any_goals (refine propId ?_; omega)))) <;> ((try refine zR3 ?_) <;> (repeat' (with_reducible first | refine And.intro ?_ ?_ | intro _))))))
        · rename_i y hk0 w hf
          have hyf : ffin (csize c.1) = false := by
            rw [← hcs, ← y.fin]
            unfold ffin
            rw [← w.cl]
            exact hf
          have hs : sCode c (lget l i) = 3 := by rw [hsc, if_pos ⟨hk0, hyf⟩]
          have hfin2 : fin.2 = 3 := by rw [← hinv, sLoop_stop hik hc' (by rw [hs]; decide)]; exact hs
          refine l_fmax rfl rfl rfl rfl fun mm => ?_
          all_goals ((try refine zR3 ?_) <;> (repeat' (with_reducible first | refine And.intro ?_ ?_ | intro _)))
          refine e_outT (Lr := []) ⟨(lo.set i z, mm.1), by simp [hlo], fun h => absurd (hfin2.symm.trans h) (by decide)⟩ zSub ?_ zFsub
          dsimp only
          rw [hfin2]
          exact zTake
        · rename_i y hk0 w hf
          have hyf : ffin y.1 = true := by
            unfold ffin
            rw [← w.cl]
            exact hf
          have hyc : ffin (csize c.1) = true := by rw [← hcs, ← y.fin]; exact hyf
          have hs : sCode c (lget l i) = 0 := by rw [hsc, if_neg (fun h => by rw [hyc] at h; cases h.2)]; exact hk0
          rw [sLoop_go hik hc' hs] at hinv
          have hy : nf y.1 = csize c.1 := y.2.trans hcs
          refine l_fmax rfl rfl rfl rfl fun mm => ?_
          have hg : fcmp .gtr y.1 mv = fcmp .gtr (csize c.1) (nf mv) := fcmp_eq (hy.trans (nf_csize _).symm) (nf_nf _).symm
          have hmm : nf mm.1 = sMove c (nf mv) := by
            unfold sMove
            rw [← hg]
            rcases Bool.eq_false_or_eq_true (fcmp .gtr y.1 mv) with hgv | hgv
            · rw [if_true_of hgv]; exact (mm.2.1 hgv).trans hy
            · rw [if_false_of hgv]; exact mm.2.2 hgv hmn (ffin_nan hyf) (neg_of_pos rfl hmv hmn)
          have hmn' : nanB mm.1 = false := by
            rcases Bool.eq_false_or_eq_true (fcmp .gtr y.1 mv) with hgv | hgv
            · rw [← nanB_nf, mm.2.1 hgv, nanB_nf]; exact ffin_nan hyf
            · rw [← nanB_nf, mm.2.2 hgv hmn (ffin_nan hyf) (neg_of_pos rfl hmv hmn), nanB_nf]; exact hmn
          all_goals ((try refine zR3 ?_) <;> (repeat' (with_reducible first | refine And.intro ?_ ?_ | intro _)))
          · exact absurd hk0 (by assumption)
          · have hn : l.length - (i + 1) = k := by omega
            refine e_againT (Lr := []) ⟨(i + 1, lo.set i z, mm.1), hi', by simp [hlo], ?_, by rw [hmm]; exact sMove_pos c hmv, hmn', ?_⟩ (by dsimp only; omega) zSub (by rw [hk0]; exact zTake) zFsub
            · dsimp only
              rw [List.drop_set_of_lt (by omega)]
              have h3 : (lo.drop i).drop 1 = (l.drop i).drop 1 := by rw [hdrop]
              simpa [List.drop_drop] using h3
            · dsimp only
              rw [hn, hmm, ← hset]
              exact hinv
        · rename_i y hk0
          have hs : sCode c (lget l i) = k3 := by rw [hsc, if_neg (fun h => hk0 h.1)]
          have hfin2 : fin.2 = k3 := by rw [← hinv, sLoop_stop hik hc' (by rw [hs]; exact hk0)]; exact hs
          refine l_fmax rfl rfl rfl rfl fun mm => ?_
          all_goals ((try refine zR3 ?_) <;> (repeat' (with_reducible first | refine And.intro ?_ ?_ | intro _)))
          · refine e_outT (Lr := []) ⟨(lo.set i z, mm.1), by simp [hlo], fun h => absurd (hfin2.symm.trans h) hk0⟩ zSub ?_ zFsub
            dsimp only
            rw [hfin2]
            exact zTake
          · exact absurd (Decidable.of_not_not (by assumption)) hk0
    · all_goals ((try refine zR3 ?_) <;> (repeat' (with_reducible first | refine And.intro ?_ ?_ | intro _)))
      all_goals (first | (exfalso; omega) | skip)
      have h0 : l.length - i = 0 := by omega
      rw [h0, sLoop] at hinv
      subst hinv
      exact e_out ⟨(lo, mv), hlo, fun _ => ⟨rfl, rfl⟩⟩ zSub rfl zFsub
  · rintro ⟨⟨lo, mv⟩, hlo, hres⟩
    dsimp only at hlo hres ⊢
    all_goals ((try refine zR3 ?_) <;> (repeat' (with_reducible first | refine And.intro ?_ ?_ | intro _)))
    exact e_pm ⟨(v', lo, mv), hsv, hlo, hres⟩ rfl zRes zTake rfl
end Go.Proofs.Ytbclejclkicgnaa.K
end
