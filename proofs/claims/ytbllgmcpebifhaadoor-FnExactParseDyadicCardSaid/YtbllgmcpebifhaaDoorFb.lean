/- The laws' copies and comparisons. -/
import Derived.Test.YtbllgmcpebifhaaDoorFa
namespace Go.Proofs.YtbllgmcpebifhaaDoor.K
open Go Go.RowKit
set_option linter.all false
set_option maxRecDepth 4000
set_option maxHeartbeats 1000000

theorem eqInt64S_spec (va vb : Value) (la lb : List Int) : Spec Tryd.prog 31 [va, vb] [] [fList 1 (rInt .i64) va la, fList 1 (rInt .i64) vb lb] (Gives (.bool (decide (la = lb)))) := by
  refine enter Tryd.func31 Tryd.ntmps31 rfl (by kernel_rfl) zCon rfl fun G => ?_
  all_goals ((try refine zS ?_) <;> (repeat' (with_reducible first | refine And.intro ?_ ?_ | intro _)))
  refine c_dec rfl (fun hne => ?_) (fun heq => ?_)
  · all_goals ((try refine zR ?_) <;> (repeat' (with_reducible first | refine And.intro ?_ ?_ | intro _)))
    refine e_gives rfl zRes ?_
    have : ¬ la = lb := fun h => hne (by rw [h])
    simp [retVal, this]
  have hlen : la.length = lb.length := by omega
  all_goals ((try refine zS ?_) <;> (repeat' (with_reducible first | refine And.intro ?_ ?_ | intro _)))
  refine c_loop (ι := { i : Nat // i ≤ la.length ∧ la.take i = lb.take i }) (fun i => [(5, .int .i64 (i.1 : Int)), (0, va), (1, vb)]) (fun _ => []) (fun _ => [fList 1 (rInt .i64) va la, fList 1 (rInt .i64) vb lb]) (fun i => la.length - i.1) ⟨0, by omega, rfl⟩ (fun _ _ s => s.start zSub zRfl zFsub) ?_
  rintro ⟨i, hi, hpre⟩
  dsimp only
  all_goals (((try refine zD ?_) <;> (repeat' (with_reducible first | refine And.intro ?_ ?_ | intro _))) <;> (repeat' ((first | refine c_draw ([8], []) [] [0, 1, 2, 3, 4, 5, 6, 7, 8] (by kernel_rfl) (by kernel_rfl) ?_) <;> ((try refine zD ?_) <;> (repeat' (with_reducible first | refine And.intro ?_ ?_ | intro _))))))
  · rename_i hne
    refine e_gives rfl zRes ?_
    have : ¬ la = lb := fun h => by subst h; exact hne rfl
    simp [retVal, this]
  · rename_i hil heq'
    have heq' : la[i] = lb[i] := Decidable.of_not_not heq'
    refine e_again ⟨i + 1, by omega, ?_⟩ (by dsimp only; omega) zSub rfl (fun _ h => h)
    rw [List.take_succ_eq_append_getElem (by omega), List.take_succ_eq_append_getElem (by omega), hpre, heq']
  · refine e_gives rfl zRes ?_
    have : la = lb := by
      have e1 : i = la.length := by omega
      rw [e1, List.take_length, hlen, List.take_length] at hpre
      exact hpre
    simp [retVal, this]

/-- A whole number's fields, as the laws hand them over. -/
abbrev vWhole (sg : Int) (v : Value) : Value := .agg #[.int .i64 sg, v]
abbrev vDyadic (sg : Int) (v : Value) (e : Int) : Value := .agg #[.int .i64 sg, v, .int .i64 e]

theorem eqWhole_spec (va vb : Value) (la lb : List Int) (sa sb : Int) : Spec Tryd.prog 15 [vWhole sa va, vWhole sb vb] [] [fList 1 (rInt .i64) va la, fList 1 (rInt .i64) vb lb] (Gives (.bool (decide (sa = sb ∧ la = lb)))) := by
  refine enter Tryd.func15 Tryd.ntmps15 rfl (by kernel_rfl) zCon rfl fun G => ?_
  refine c_isList (v := va) zMem fun hs1 => ?_
  refine c_isList (v := vb) zMem fun hs2 => ?_
  all_goals (((try refine zR ?_) <;> (repeat' (with_reducible first | refine And.intro ?_ ?_ | intro _))) <;> (repeat' ((first | ((with_reducible apply l_callP); exact rfl; exact zEvs; exact rfl; (with_reducible apply eqInt64S_spec); (case hF => exact zFsub); (try any_goals (refine propId ?_; omega)))) <;> ((try refine zR ?_) <;> (repeat' (with_reducible first | refine And.intro ?_ ?_ | intro _))))))
  all_goals (refine e_gives rfl zRes ?_; first | rfl | (simp [retVal, *]; done) | (simp_all [retVal]; done) | (simp only [retVal]))

theorem eqDyadic_spec (va vb : Value) (la lb : List Int) (sa sb ea eb : Int) : Spec Tryd.prog 6 [vDyadic sa va ea, vDyadic sb vb eb] [] [fList 1 (rInt .i64) va la, fList 1 (rInt .i64) vb lb] (Gives (.bool (decide (sa = sb ∧ la = lb ∧ ea = eb)))) := by
  refine enter Tryd.func6 Tryd.ntmps6 rfl (by kernel_rfl) zCon rfl fun G => ?_
  refine c_isList (v := va) zMem fun hs1 => ?_
  refine c_isList (v := vb) zMem fun hs2 => ?_
  all_goals (((try refine zR ?_) <;> (repeat' (with_reducible first | refine And.intro ?_ ?_ | intro _))) <;> (repeat' ((first | ((with_reducible apply l_callP); exact rfl; exact zEvs; exact rfl; (with_reducible apply eqWhole_spec); (case hF => exact zFsub); (try any_goals (refine propId ?_; omega)))) <;> ((try refine zR ?_) <;> (repeat' (with_reducible first | refine And.intro ?_ ?_ | intro _))))))
  all_goals (refine e_gives rfl zRes ?_; first | rfl | (simp [retVal, *]; done) | (simp_all [retVal]; done) | (simp only [retVal]))
end Go.Proofs.YtbllgmcpebifhaaDoor.K
