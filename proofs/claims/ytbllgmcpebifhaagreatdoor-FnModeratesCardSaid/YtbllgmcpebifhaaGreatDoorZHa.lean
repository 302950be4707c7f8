/- Whole numbers: their texts' lengths; copies; a whole number made. -/
import Derived.Test.YtbllgmcpebifhaaGreatDoorZGg
import Derived.Test.YtbllgmcpebifhaaGreatDoorZFc
namespace Go.Proofs.YtbllgmcpebifhaaGreatDoor.K
open Go Go.RowKit Go.Lib
set_option linter.all false
set_option maxRecDepth 4000
set_option maxHeartbeats 1000000

theorem l01Own_spec (v : Value) (l : List Int) (hl : l.length ≤ 1048576) : Spec Tryz.prog 238 [v] [] [fList 1 (rInt .i64) v l] (fun r L' F' => L' = [.row r 2 1 l.length (l.map (Value.int .i64))] ∧ F' = []) := by
  refine enter Tryz.func238 Tryz.ntmps238 rfl (by kernel_rfl) zCon rfl fun G => ?_
  all_goals ((try refine zS ?_) <;> (repeat' (with_reducible first | refine And.intro ?_ ?_ | intro _)))
  refine l_appendInts rfl rfl rfl rfl rfl zMem (fun _ => .head) (by simp [maxLen]; omega) (by omega) fun r => ?_
  all_goals ((try refine zR ?_) <;> (repeat' (with_reducible first | refine And.intro ?_ ?_ | intro _)))
  exact e_resT rfl zRes (.cons .head .nil) fsub_nil ⟨by simp [retVal], rfl⟩

theorem IsW.len {sg : Int} {l : List Int} (h : IsW sg l) : l.length ≤ 200 := by
  by_cases h0 : l = []
  · subst h0; simp
  · have := h.2
    rw [if_neg h0] at this
    exact this.1

/-! ### what is owned, lent -/
inductive Loan (L : List Own) : Fact → Prop
  | ints {v : Value} {E : TypeId} {N : Nat} {k : IntKind} {l : List Int} {xs : List Value} : Own.row v E 1 N xs ∈ L → xs = l.map (Value.int k) → Loan L (fList 1 (rInt k) v l)
theorem Loan.holds {L : List Own} {φ : Fact} (h : Loan L φ) {w : World} (hL : Owns w L) : φ.holds w (fun _ => False) := by
  cases h with
  | @ints v E N k l xs hm hx =>
    subst hx
    have hr : w.ownsRow 0 E 1 v N (l.map (Value.int k)) := hL.all _ hm
    have hN : N = l.length := by have := hr.1; simpa using this.symm
    rcases hr.2 with ⟨hv, h0⟩ | ⟨b, cap, cur, hv, _, hh, h1, h2, h3, h4⟩
    · have : l = [] := List.eq_nil_of_length_eq_zero (by omega)
      exact .inl ⟨⟨none, hv⟩, this⟩
    · refine .inr ⟨b, 0, cap, cur, E, (0, 0), by rw [hv, hN], by omega, h2, hh, id, by omega, fun i x hx => ?_⟩
      have := freeze_ints (ik := k) (l := l) [] w (fun _ => False) (fun φ h => by cases h) i x hx
      have hi : i < l.length := (List.getElem?_eq_some_iff.1 hx).1
      have e : ((l.map (Value.int k)).drop (i * 1)).take 1 = (cur.toList.drop (0 + i * 1)).take 1 := by
        rw [← h4, List.drop_take, List.take_take, Nat.zero_add]
        congr 1
        omega
      rw [← e]
      exact this
section
variable {G : Ctx} {n : Nat} {P : Program} {ops : Array Oper} {Q : Post} {rest : List Oper} {m : Regs} {L : List Own} {F : List Fact} {d : Nat} {ty : TypeId} {pos : String} {af : Array Edge} {g : Option (Nat × Bool)}
end
end Go.Proofs.YtbllgmcpebifhaaGreatDoor.K
