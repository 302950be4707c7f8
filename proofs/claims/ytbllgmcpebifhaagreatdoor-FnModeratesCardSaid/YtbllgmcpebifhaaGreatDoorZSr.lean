/- Looking into lists of moderate numbers, owned ones too. -/
import Derived.Test.YtbllgmcpebifhaaGreatDoorZSm
import Derived.Test.YtbllgmcpebifhaaGreatDoorZSa
namespace Go.Proofs.YtbllgmcpebifhaaGreatDoor.K
open Go Go.RowKit Ieee
set_option linter.all false
set_option maxRecDepth 10000
set_option maxHeartbeats 1000000

section
variable {G : Ctx} {n : Nat} {P : Program} {ops : Array Oper} {Q : Post} {rest : List Oper} {m : Regs} {L : List Own} {F : List Fact} {d : Nat} {ty : TypeId} {pos : String} {af : Array Edge} {g : Option (Nat × Bool)}
theorem lookCx {w : World} {v : Value} {E : TypeId} {N : Nat} {l : List (Nat × Nat)} (hr : w.ownsRow 0 E 1 v N (l.map cx)) {j : Nat} (hj : j ≤ N) {b c : Nat} (hv0 : v = .slice (some ⟨b, 0, none⟩) N c) : (fList 1 rCx (.slice (some ⟨b, 0, none⟩) j c) (l.take j)).holds w (fun _ => False) := by
  have hN : N = l.length := by have := hr.1; simpa using this.symm
  rcases hr.2 with ⟨hv, h0⟩ | ⟨b', cap, cur, hv, _, hh, h1, h2, h3, h4⟩
  · rw [hv0] at hv; cases hv
  · rw [hv0] at hv
    injection hv with e1 e2 e3
    injection e1 with e1
    injection e1 with e1
    subst e1; subst e3
    have hlen : (l.take j).length = j := by rw [List.length_take]; omega
    refine .inr ⟨b, 0, c, cur, E, (0, 0), by rw [hlen], by omega, h2, hh, id, by omega, fun i x hx => ?_⟩
    have hi : i < (l.take j).length := (List.getElem?_eq_some_iff.1 hx).1
    rw [List.getElem?_take, if_pos (by omega)] at hx
    have := frz_cx (l := l) [] w (fun _ => False) (fun φ h => by cases h) i x hx
    have hi2 : i < l.length := (List.getElem?_eq_some_iff.1 hx).1
    have e : ((l.map cx).drop (i * 1)).take 1 = (cur.toList.drop (0 + i * 1)).take 1 := by
      rw [← h4, List.drop_take, List.take_take, Nat.zero_add]
      congr 1
      omega
    rw [← e]
    exact this
/-- A row that is owned, lent whole. -/
theorem lendCx {L : List Own} {v : Value} {E : TypeId} {N : Nat} {l : List (Nat × Nat)} (hm : Own.row v E 1 N (l.map cx) ∈ L) : ∀ w, Owns w L → (fList 1 rCx v l).holds w (fun _ => False) := fun w hL => by
  have hr : w.ownsRow 0 E 1 v N (l.map cx) := hL.all _ hm
  have hN : N = l.length := by have := hr.1; simpa using this.symm
  rcases hr.2 with ⟨hv, h0⟩ | ⟨b, cap, cur, hv, _⟩
  · have : l = [] := List.eq_nil_of_length_eq_zero (by omega)
    exact .inl ⟨⟨none, hv⟩, this⟩
  · have := lookCx hr (Nat.le_refl N) hv
    rw [hN, List.take_length] at this
    rw [hv, hN]
    exact this
/-- The beginning of a row that is owned, only to be looked at. -/
theorem l_sliceLook {t e : TypeId} {z : Value} {by' : Nat} [u : Und P t (.slice e)] [f : Inf P e z 1 by'] {x : Operand} {hi : Option Operand} {j N : Nat} {v : Value} {l : List (Nat × Nat)} (hB : Own.row v e 1 N (l.map cx) ∈ L) (hw : wantG ops m g = some true) (hx : ev m x = some v) (hhi : EvO m hi (some j)) (hd : Nat.blt d n = true)
    (h2 : j ≤ N) (h : ∀ v', (∀ w, Owns w L → (fList 1 rCx v' (l.take j)).holds w (fun _ => False)) → RunL G n P ops Q rest ((d, v') :: m) L F) :
    RunL G n P ops Q (⟨some d, .slice t x none hi none, ty, pos, af, g⟩ :: rest) m L F :=
  l_step hw fun a w st => by
    have hr : w.ownsRow 0 e 1 v N (l.map cx) := st.own.all _ hB
    have hN : N = l.length := by have := hr.1; simpa using this.symm
    rcases hr.2 with ⟨hv, h0⟩ | ⟨b, cap, cur, hv, _, hh, q1, q2, q3, q4⟩
    · have hj : j = 0 := by omega
      have hv' := hv
      subst hj; subst h0
      have := run_sliceAt (P := P) (w := w) (t := t) (ad := none) (N := 0) (c := 0) st.env .none hhi (Nat.le_refl _) (by simp) (by simp)
      simp only [Option.map_none, Option.getD_none, Option.getD_some, if_true, Nat.sub_self] at this
      refine ⟨.slice none 0 0, w, by simp only [execOp, st.env.eval hx, hv', Sem.run_bind, Option.map_none, this, Result.andThen_ok]; rfl, h (.slice none 0 0) (fun w0 _ => .inl ⟨⟨none, rfl⟩, by simp⟩) _ _ (st.put hd _)⟩
    · have hv' := hv
      have := run_sliceAt (P := P) (w := w) (t := t) (ad := some ⟨b, 0, none⟩) (N := N) (c := cap) st.env .none hhi q1 (by simp) (by simpa using Nat.le_trans h2 q1)
      have e : (Value.slice (if cap = (none : Option Nat).getD 0 then some ⟨b, 0, none⟩ else Option.map (fun (q : Addr) => q.add ((none : Option Nat).getD 0 * 1)) (some ⟨b, 0, none⟩)) ((some j).getD N - (none : Option Nat).getD 0) (cap - (none : Option Nat).getD 0)) = .slice (some ⟨b, 0, none⟩) j cap := by
        simp [add_at]
      rw [e] at this
      simp only [Option.map_none] at this
      exact ⟨.slice (some ⟨b, 0, none⟩) j cap, w, by simp only [execOp, st.env.eval hx, hv', Sem.run_bind, Option.map_none, this, Result.andThen_ok]; rfl, h _ (fun w0 hL => lookCx (hL.all _ hB) h2 hv) _ _ (st.put hd _)⟩
/-- A call that only computes, and may read what is owned. -/
theorem l_callLook {f : FuncId} {xs : List Operand} {vs : List Value} {ts : Array TypeId} {Fc : List Fact} {v : Value}
    (hw : wantG ops m g = some true) (hv : Evs m xs vs) (hd : Nat.blt d n = true) (hs : Spec P f vs [] Fc (Gives v)) (hF : ∀ φ, φ ∈ Fc → φ ∈ F ∨ (∀ w, Owns w L → φ.holds w (fun _ => False)))
    (h : RunL G n P ops Q rest ((d, v) :: m) L F) : RunL G n P ops Q (⟨some d, .call ⟨.value (.func f), xs.toArray, ts⟩, ty, pos, af, g⟩ :: rest) m L F := by
  intro a w s
  have hwa := wantG_eq (o := ⟨some d, .call ⟨.value (.func f), xs.toArray, ts⟩, ty, pos, af, g⟩) s.env rfl hw
  refine wpList_step fun K hK => ?_
  rw [if_pos hwa]
  unfold Oper.wp
  rw [run_call (first := []) (cap := []) hs.1 (by exact s.env.eval rfl) (hv.map s.env) w, Oper.upon_enter]
  have hvs : ([] ++ vs ++ [] : List Value) = vs := by simp
  rw [hvs]
  refine (hs.2 w (fun _ => False) (fun _ h => h.elim) ⟨fun o h => (by cases h), trivial⟩ ?_).mono ?_
  · intro φ hφ
    rcases hF φ hφ with h1 | h1
    · exact φ.stable (s.facts φ h1) ⟨Nat.le_refl _, fun _ _ _ => rfl, fun x _ hx => by
        rcases hx with hx | hx
        · exact hx.elim
        · exact (keys_nil x hx).elim⟩
    · exact φ.stable (h1 w s.own) ⟨Nat.le_refl _, fun _ _ _ => rfl, fun x _ hx => by
        rcases hx with hx | hx
        · exact hx.elim
        · exact (keys_nil x hx).elim⟩
  · rintro e w' ⟨v', L', F', rfl, ⟨rfl, rfl, rfl⟩, hkeep, _, _, _⟩
    refine hK _ _ (h _ w' ((s.quiet ⟨hkeep.os, hkeep.tape, hkeep.output, hkeep.size, fun x hx _ => hkeep.block x hx (keys_nil x)⟩).put hd _))
end
theorem lends1 {L : List Own} {F : List Fact} {φ : Fact} (h : ∀ w, Owns w L → φ.holds w (fun _ => False)) : ∀ ψ, ψ ∈ [φ] → ψ ∈ F ∨ (∀ w, Owns w L → ψ.holds w (fun _ => False)) := fun ψ hψ => by
  rw [List.mem_singleton.1 hψ]; exact .inr h

theorem IndexCx_spec (v : Value) (l : List (Nat × Nat)) (z : Nat × Nat) (hz : Can z) (hl : ∀ w ∈ l, Can w) : Spec Tryz.prog 221 [v, .complex .f64 z.1 z.2] [] [fList 1 rCx v l] (PM (fun u : {x : Int // 0 ≤ x ↔ z ∈ l} => .int .i64 u.1) fun _ => []) := by
  refine enter Tryz.func221 Tryz.ntmps221 rfl (by kernel_rfl) zCon rfl fun G => ?_
  refine c_isList (v := v) zMem fun hsv => ?_
  refine c_lenList zMem fun hlen => ?_
  all_goals ((try refine zR3 ?_) <;> (repeat' (with_reducible first | refine And.intro ?_ ?_ | intro _)))
  refine c_while (ι := { i : Nat // i ≤ l.length ∧ z ∉ l.take i }) (κ := { u : Unit // z ∉ l }) (fun i => [(0, v), (1, .complex .f64 z.1 z.2), (7, .int .i64 (l.length : Int)), (8, .int .i64 (i.1 : Int))]) (fun _ => []) (fun _ => [fList 1 rCx v l]) (fun i => l.length - i.1)
    (fun _ => []) (fun _ => []) (fun _ => []) ⟨0, Nat.zero_le _, by simp⟩ (fun _ _ s => s.start zSub zRfl zFsub) ?_ ?_
  · rintro ⟨i, hi, hno⟩
    dsimp only at hi hno ⊢
    by_cases hi' : i < l.length
    · obtain ⟨w, hw⟩ : ∃ w, l[i]? = some w := ⟨_, List.getElem?_eq_getElem hi'⟩
      have hcq := ceq_can hz (hl w (List.mem_of_getElem? hw))
      all_goals ((try refine zR3 ?_) <;> (repeat' (with_reducible first | refine And.intro ?_ ?_ | intro _)))
      all_goals (first | (exfalso; omega) | skip)
      · have h0 : ceq z w = true := by assumption
        have h1 : z = w := by rw [hcq] at h0; exact of_decide_eq_true h0
        exact e_pm ⟨(i : Int), ⟨fun _ => h1 ▸ List.mem_of_getElem? hw, fun _ => by omega⟩⟩ rfl zRes .nil rfl
      · have h0 : ceq z w = false := by assumption
        have h1 : z ≠ w := by rw [hcq] at h0; exact of_decide_eq_false h0
        refine e_again ⟨i + 1, hi', ?_⟩ (by dsimp only; omega) zSub rfl zFsub
        rw [List.take_succ, hw]
        intro h
        rcases List.mem_append.1 h with h | h
        · exact hno h
        · simp at h; exact h1 h
    · all_goals ((try refine zR3 ?_) <;> (repeat' (with_reducible first | refine And.intro ?_ ?_ | intro _)))
      all_goals (first | (exfalso; omega) | skip)
      exact e_out ⟨(), by rwa [List.take_of_length_le (by omega)] at hno⟩ zSub rfl (fun _ h => by cases h)
  · rintro ⟨_, h⟩
    all_goals ((try refine zR3 ?_) <;> (repeat' (with_reducible first | refine And.intro ?_ ?_ | intro _)))
    exact e_pm ⟨-1, ⟨fun h0 => absurd h0 (by decide), fun h0 => absurd h0 h⟩⟩ rfl zRes .nil rfl
theorem ContainsCx_spec (v : Value) (l : List (Nat × Nat)) (z : Nat × Nat) (hz : Can z) (hl : ∀ w ∈ l, Can w) : Spec Tryz.prog 161 [v, .complex .f64 z.1 z.2] [] [fList 1 rCx v l] (Gives (.bool (decide (z ∈ l)))) := by
  refine enter Tryz.func161 Tryz.ntmps161 rfl (by kernel_rfl) zCon rfl fun G => ?_
  refine c_isList (v := v) zMem fun hsv => ?_
  have hI := IndexCx_spec v l z hz hl
  all_goals (((try refine zR3 ?_) <;> (repeat' (with_reducible first | refine And.intro ?_ ?_ | intro _))) <;> (repeat' ((first | ((with_reducible apply l_callM); exact rfl; exact rfl; exact zEvs; exact rfl; (apply hI); (case hL => exact zTake); (case hF => exact zFsub); (try any_goals (refine propId ?_; first | omega | exact zLt)); (with_reducible intro _))) <;> ((try refine zR3 ?_) <;> (repeat' (with_reducible first | refine And.intro ?_ ?_ | intro _))))))
  rename_i u
  obtain ⟨x, hx⟩ := u
  dsimp only
  refine e_gives rfl zRes ?_
  simp [retVal, hx]
theorem l10Met_spec (v : Value) (l : List (Nat × Nat)) (z : Nat × Nat) (hz : Can z) (hl : ∀ w ∈ l, Can w) : Spec Tryz.prog 163 [v, .complex .f64 z.1 z.2] [] [fList 1 rCx v l] (Gives (.bool (decide (z ∈ l)))) := by
  refine enter Tryz.func163 Tryz.ntmps163 rfl (by kernel_rfl) zCon rfl fun G => ?_
  refine c_isList (v := v) zMem fun hsv => ?_
  refine c_lenList zMem fun hlen => ?_
  all_goals ((try refine zR3 ?_) <;> (repeat' (with_reducible first | refine And.intro ?_ ?_ | intro _)))
  refine c_while (ι := { i : Nat // i ≤ l.length ∧ z ∉ l.take i }) (κ := { u : Unit // z ∉ l }) (fun i => [(0, v), (1, .complex .f64 z.1 z.2), (5, .int .i64 (i.1 : Int))]) (fun _ => []) (fun _ => [fList 1 rCx v l]) (fun i => l.length - i.1)
    (fun _ => []) (fun _ => []) (fun _ => []) ⟨0, Nat.zero_le _, by simp⟩ (fun _ _ s => s.start zSub zRfl zFsub) ?_ ?_
  · rintro ⟨i, hi, hno⟩
    dsimp only at hi hno ⊢
    by_cases hi' : i < l.length
    · obtain ⟨w, hw⟩ : ∃ w, l[i]? = some w := ⟨_, List.getElem?_eq_getElem hi'⟩
      have hcq := ceq_can (hl w (List.mem_of_getElem? hw)) hz
      all_goals ((try refine zR3 ?_) <;> (repeat' (with_reducible first | refine And.intro ?_ ?_ | intro _)))
      all_goals (first | (exfalso; omega) | skip)
      · have h0 : ceq w z = true := by assumption
        have h1 : w = z := by rw [hcq] at h0; exact of_decide_eq_true h0
        have h2 : z ∈ l := h1 ▸ List.mem_of_getElem? hw
        rw [decide_eq_true h2]
        (refine e_gives rfl zRes ?_; first | rfl | (simp [retVal, *]; done) | (simp_all [retVal]; done) | (simp only [retVal]))
      · have h0 : ceq w z = false := by assumption
        have h1 : w ≠ z := by rw [hcq] at h0; exact of_decide_eq_false h0
        refine e_again ⟨i + 1, hi', ?_⟩ (by dsimp only; omega) zSub rfl zFsub
        rw [List.take_succ, hw]
        intro h
        rcases List.mem_append.1 h with h | h
        · exact hno h
        · simp at h; exact h1 h.symm
    · all_goals ((try refine zR3 ?_) <;> (repeat' (with_reducible first | refine And.intro ?_ ?_ | intro _)))
      all_goals (first | (exfalso; omega) | skip)
      exact e_out ⟨(), by rwa [List.take_of_length_le (by omega)] at hno⟩ zSub rfl (fun _ h => by cases h)
  · rintro ⟨_, h⟩
    all_goals ((try refine zR3 ?_) <;> (repeat' (with_reducible first | refine And.intro ?_ ?_ | intro _)))
    rw [decide_eq_false h]
    (refine e_gives rfl zRes ?_; first | rfl | (simp [retVal, *]; done) | (simp_all [retVal]; done) | (simp only [retVal]))
end Go.Proofs.YtbllgmcpebifhaaGreatDoor.K
