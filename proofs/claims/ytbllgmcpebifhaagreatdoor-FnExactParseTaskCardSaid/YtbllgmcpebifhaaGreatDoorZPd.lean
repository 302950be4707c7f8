/- Tasks: words, kinds, what a task is. -/
import Derived.Test.YtbllgmcpebifhaaGreatDoorZPa
namespace Go.Proofs.YtbllgmcpebifhaaGreatDoor.K
open Go Go.RowKit Go.Lib
set_option linter.all false
set_option maxRecDepth 4000
set_option maxHeartbeats 1000000

/-- The words of a kind. -/
def tw (k : Int) : List UInt8 × List UInt8 :=
  if k = 0 then ([114, 111, 111, 116, 115], []) else if k = 1 then ([118, 97, 108, 117, 101], [97, 116]) else if k = 2 then ([100, 105, 118, 105, 100, 101], [98, 121])
  else if k = 3 then ([99, 111, 109, 109, 111, 110], [97, 110, 100]) else if k = 4 then ([100, 101, 114, 105, 118, 101], []) else ([109, 117, 108, 116, 105, 112, 108, 121], [97, 110, 100])
theorem taskWords_spec (k : Int) : Spec Tryz.prog 132 [.int .i64 k] [] [] (Gives (.tuple #[.string ⟨(tw k).1.toArray⟩, .string ⟨(tw k).2.toArray⟩])) := by
  refine enter Tryz.func132 Tryz.ntmps132 rfl (by kernel_rfl) zCon rfl fun G => ?_
  unfold tw
  all_goals ((try refine zR2 ?_) <;> (repeat' (with_reducible first | refine And.intro ?_ ?_ | intro _)))
  all_goals (refine e_gives rfl zRes ?_; simp_all [retVal])
theorem l11Words_spec (k : Int) : Spec Tryz.prog 201 [.int .i64 k] [] [] (Gives (.tuple #[.string ⟨(tw k).1.toArray⟩, .string ⟨(tw k).2.toArray⟩])) := by
  refine enter Tryz.func201 Tryz.ntmps201 rfl (by kernel_rfl) zCon rfl fun G => ?_
  unfold tw
  all_goals ((try refine zR2 ?_) <;> (repeat' (with_reducible first | refine And.intro ?_ ?_ | intro _)))
  all_goals (refine e_gives rfl zRes ?_; simp_all [retVal])
/-- Kinds with a second polynomial. -/
def k2 (k : Int) : Prop := k = 2 ∨ k = 3 ∨ k = 5
instance (k : Int) : Decidable (k2 k) := by unfold k2; infer_instance
theorem hasSecond_spec (k : Int) : Spec Tryz.prog 133 [.int .i64 k] [] [] (Gives (.bool (decide (k2 k)))) := by
  refine enter Tryz.func133 Tryz.ntmps133 rfl (by kernel_rfl) zCon rfl fun G => ?_
  all_goals ((try refine zR2 ?_) <;> (repeat' (with_reducible first | refine And.intro ?_ ?_ | intro _)))
  all_goals (refine e_gives rfl zRes ?_; simp_all [retVal, k2])
theorem l11Kind_spec (k : Int) : Spec Tryz.prog 257 [.int .i64 k] [] [] (Gives (.bool (decide (k2 k)))) := by
  refine enter Tryz.func257 Tryz.ntmps257 rfl (by kernel_rfl) zCon rfl fun G => ?_
  all_goals ((try refine zR2 ?_) <;> (repeat' (with_reducible first | refine And.intro ?_ ?_ | intro _)))
  all_goals (refine e_gives rfl zRes ?_; simp_all [retVal, k2])
/-- A task as a value. -/
abbrev vTask (k : Int) (v1 v2 : Value) (z : Nat × Nat) : Value := .agg #[.int .i64 k, v1, v2, .complex .f64 z.1 z.2]
/-- What a task that is being read keeps to. -/
def TIn (k : Int) (ys : List (Nat × Nat)) (z : Nat × Nat) : Prop := (k2 k ∨ ys = []) ∧ ((k = 1 ∧ ∃ a, FinZ z a) ∨ (k ≠ 1 ∧ z = (0, 0)))
theorem IsTask_spec (k : Int) (v1 v2 : Value) (zs ys : List (Nat × Nat)) (z : Nat × Nat) (hk : 0 ≤ k ∧ k ≤ 5) (hz : FinL zs) (hy : FinL ys) (hzl : zs.length ≤ 100) (hyl : ys.length ≤ 100) (hT : TIn k ys z) :
    Spec Tryz.prog 134 [vTask k v1 v2 z] [] [fList 1 rCx v1 zs, fList 1 rCx v2 ys] (Gives (.bool (decide (IsPol zs ∧ (k2 k → IsPol ys))))) := by
  refine enter Tryz.func134 Tryz.ntmps134 rfl (by kernel_rfl) zCon rfl fun G => ?_
  refine c_isList (v := v1) zMem fun hs1 => ?_
  refine c_isList (v := v2) zMem fun hs2 => ?_
  have h1 := IsPolynomial_spec v1 zs hz hzl
  have h2 := IsPolynomial_spec v2 ys hy hyl
  have h3 := hasSecond_spec k
  have hz0 := fv_zero
  obtain ⟨hT1, ⟨rfl, a, ha⟩ | ⟨hk1, rfl⟩⟩ := hT
  · obtain rfl : ys = [] := hT1.resolve_left (by decide)
    have hF := IsFinite_fin z a ha
    have hn : ¬ k2 1 := by decide
    all_goals (((try refine zR2 ?_) <;> (repeat' (with_reducible first | refine And.intro ?_ ?_ | intro _))) <;> (repeat' ((first | ((with_reducible apply l_callP); exact rfl; exact zEvs; exact rfl; (with_reducible apply between_spec); (case hF => exact zFsub); (try any_goals (refine propId ?_; omega))) | ((with_reducible apply l_callP); exact rfl; exact zEvs; exact rfl; (with_reducible apply h1); (case hF => exact zFsub); (try any_goals (refine propId ?_; omega))) | ((with_reducible apply l_callP); exact rfl; exact zEvs; exact rfl; (with_reducible apply h2); (case hF => exact zFsub); (try any_goals (refine propId ?_; omega))) | ((with_reducible apply l_callP); exact rfl; exact zEvs; exact rfl; (with_reducible apply h3); (case hF => exact zFsub); (try any_goals (refine propId ?_; omega))) | ((with_reducible apply l_callP); exact rfl; exact zEvs; exact rfl; (with_reducible apply hF); (case hF => exact zFsub); (try any_goals (refine propId ?_; omega)))) <;> ((try refine zR2 ?_) <;> (repeat' (with_reducible first | refine And.intro ?_ ?_ | intro _))))))
    all_goals first | (exfalso; omega) | (exfalso; contradiction) | skip
    all_goals (refine e_gives rfl zRes ?_; simp_all [retVal])
  · by_cases h2k : k2 k
    · all_goals (((try refine zR2 ?_) <;> (repeat' (with_reducible first | refine And.intro ?_ ?_ | intro _))) <;> (repeat' ((first | ((with_reducible apply l_callP); exact rfl; exact zEvs; exact rfl; (with_reducible apply between_spec); (case hF => exact zFsub); (try any_goals (refine propId ?_; omega))) | ((with_reducible apply l_callP); exact rfl; exact zEvs; exact rfl; (with_reducible apply h1); (case hF => exact zFsub); (try any_goals (refine propId ?_; omega))) | ((with_reducible apply l_callP); exact rfl; exact zEvs; exact rfl; (with_reducible apply h2); (case hF => exact zFsub); (try any_goals (refine propId ?_; omega))) | ((with_reducible apply l_callP); exact rfl; exact zEvs; exact rfl; (with_reducible apply h3); (case hF => exact zFsub); (try any_goals (refine propId ?_; omega)))) <;> ((try refine zR2 ?_) <;> (repeat' (with_reducible first | refine And.intro ?_ ?_ | intro _))))))
      all_goals first | (exfalso; omega) | (exfalso; contradiction) | skip
      all_goals (refine e_gives rfl zRes ?_; simp_all [retVal])
    · obtain rfl : ys = [] := hT1.resolve_left h2k
      all_goals (((try refine zR2 ?_) <;> (repeat' (with_reducible first | refine And.intro ?_ ?_ | intro _))) <;> (repeat' ((first | ((with_reducible apply l_callP); exact rfl; exact zEvs; exact rfl; (with_reducible apply between_spec); (case hF => exact zFsub); (try any_goals (refine propId ?_; omega))) | ((with_reducible apply l_callP); exact rfl; exact zEvs; exact rfl; (with_reducible apply h1); (case hF => exact zFsub); (try any_goals (refine propId ?_; omega))) | ((with_reducible apply l_callP); exact rfl; exact zEvs; exact rfl; (with_reducible apply h2); (case hF => exact zFsub); (try any_goals (refine propId ?_; omega))) | ((with_reducible apply l_callP); exact rfl; exact zEvs; exact rfl; (with_reducible apply h3); (case hF => exact zFsub); (try any_goals (refine propId ?_; omega)))) <;> ((try refine zR2 ?_) <;> (repeat' (with_reducible first | refine And.intro ?_ ?_ | intro _))))))
      all_goals first | (exfalso; omega) | (exfalso; contradiction) | skip
      all_goals (refine e_gives rfl zRes ?_; simp_all [retVal])
end Go.Proofs.YtbllgmcpebifhaaGreatDoor.K
