/- First functions. -/
import Derived.Test.YtbllgmcpebifhaaGreatDoorZKl
import Derived.Test.YtbllgmcpebifhaaGreatDoorZKt
namespace Go.Proofs.YtbllgmcpebifhaaGreatDoor.K
open Go Go.RowKit
set_option linter.all false
set_option maxRecDepth 4000
set_option maxHeartbeats 1000000

theorem between_spec (x lo hi : Int) : Spec Tryz.prog 102 [.int .i64 x, .int .i64 lo, .int .i64 hi] [] [] (Gives (.bool (decide (lo ≤ x ∧ x ≤ hi)))) := by
  refine enter Tryz.func102 Tryz.ntmps102 rfl (by kernel_rfl) zCon rfl fun G => ?_
  all_goals ((try refine zR ?_) <;> (repeat' (with_reducible first | refine And.intro ?_ ?_ | intro _)))
  all_goals (refine e_gives rfl zRes ?_; first | rfl | (simp [retVal, *]; done) | (simp_all [retVal]; done) | (simp only [retVal]))

theorem l01In_spec (x lo hi : Int) : Spec Tryz.prog 175 [.int .i64 x, .int .i64 lo, .int .i64 hi] [] [] (Gives (.bool (decide (lo ≤ x ∧ x ≤ hi)))) := by
  refine enter Tryz.func175 Tryz.ntmps175 rfl (by kernel_rfl) zCon rfl fun G => ?_
  all_goals ((try refine zR ?_) <;> (repeat' (with_reducible first | refine And.intro ?_ ?_ | intro _)))
  all_goals (refine e_gives rfl zRes ?_; first | rfl | (simp [retVal, *]; done) | (simp_all [retVal]; done) | (simp only [retVal]))

theorem fill_step {α : Type} (l : List α) (z : α) (i : Nat) (hi : i < l.length) : (l.take i ++ List.replicate (l.length - i) z).set i l[i] = l.take (i + 1) ++ List.replicate (l.length - (i + 1)) z := by
  have h1 : l.length - i = (l.length - (i + 1)) + 1 := by omega
  have h2 : (l.take i).length = i := by simp; omega
  rw [h1, List.replicate_succ, List.set_append_right _ _ (by omega), h2, Nat.sub_self, List.set_cons_zero, List.take_succ_eq_append_getElem hi, List.append_assoc]
  rfl


/-- A whole number's fields, as the laws hand them over. -/
abbrev vWhole (sg : Int) (v : Value) : Value := .agg #[.int .i64 sg, v]
abbrev vDyadic (sg : Int) (v : Value) (e : Int) : Value := .agg #[.int .i64 sg, v, .int .i64 e]
end Go.Proofs.YtbllgmcpebifhaaGreatDoor.K
