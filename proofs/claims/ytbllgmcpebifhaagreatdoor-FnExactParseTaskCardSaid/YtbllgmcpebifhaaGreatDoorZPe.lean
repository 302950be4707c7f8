/- Tasks: the reference's question, the program's text. -/
import Derived.Test.YtbllgmcpebifhaaGreatDoorZPd
namespace Go.Proofs.YtbllgmcpebifhaaGreatDoor.K
open Go Go.RowKit Go.Lib
set_option linter.all false
set_option maxRecDepth 4000
set_option maxHeartbeats 1000000

theorem l11Is_spec (k : Int) (v1 v2 : Value) (zs ys : List (Nat × Nat)) (z : Nat × Nat) (hk : 0 ≤ k ∧ k ≤ 5) (hz : FinL zs) (hy : FinL ys) (hT : TIn k ys z) :
    Spec Tryz.prog 202 [vTask k v1 v2 z] [] [fList 1 rCx v1 zs, fList 1 rCx v2 ys] (Gives (.bool (decide (IsPol zs ∧ (k2 k → IsPol ys))))) := by
  refine enter Tryz.func202 Tryz.ntmps202 rfl (by kernel_rfl) zCon rfl fun G => ?_
  refine c_isList (v := v1) zMem fun hs1 => ?_
  refine c_isList (v := v2) zMem fun hs2 => ?_
  have h1 := l04Is_spec v1 zs hz
  have h2 := l04Is_spec v2 ys hy
  have h3 := l11Kind_spec k
  have hz0 := fv_zero
  obtain ⟨hT1, ⟨rfl, a, ha⟩ | ⟨hk1, rfl⟩⟩ := hT
  · obtain rfl : ys = [] := hT1.resolve_left (by decide)
    have hF := l01Finite_fin z a ha
    have hn : ¬ k2 1 := by decide
    all_goals (((try refine zR2 ?_) <;> (repeat' (with_reducible first | refine And.intro ?_ ?_ | intro _))) <;> (repeat' ((first | ((with_reducible apply l_callP); exact rfl; exact zEvs; exact rfl; (with_reducible apply l01In_spec); (case hF => exact zFsub); (try any_goals (refine propId ?_; omega))) | ((with_reducible apply l_callP); exact rfl; exact zEvs; exact rfl; (with_reducible apply h1); (case hF => exact zFsub); (try any_goals (refine propId ?_; omega))) | ((with_reducible apply l_callP); exact rfl; exact zEvs; exact rfl; (with_reducible apply h2); (case hF => exact zFsub); (try any_goals (refine propId ?_; omega))) | ((with_reducible apply l_callP); exact rfl; exact zEvs; exact rfl; (with_reducible apply h3); (case hF => exact zFsub); (try any_goals (refine propId ?_; omega))) | ((with_reducible apply l_callP); exact rfl; exact zEvs; exact rfl; (with_reducible apply hF); (case hF => exact zFsub); (try any_goals (refine propId ?_; omega)))) <;> ((try refine zR2 ?_) <;> (repeat' (with_reducible first | refine And.intro ?_ ?_ | intro _))))))
    all_goals first | (exfalso; omega) | (exfalso; contradiction) | skip
    · refine e_gives rfl zRes ?_
      simp_all [retVal]
    rename_i b1 _
    refine c_draw ([19], []) [.box b1 [.int .i64 1, v1, v2, .complex .f64 z.1 z.2] 71] [0, 1, 3, 4, 5, 6, 2, 7, 8, 9, 10, 11, 12, 13, 14, 15, 16, 17, 18, 19] (by kernel_rfl) (by kernel_rfl) ?_
    all_goals (((try refine zD2 ?_) <;> (repeat' (with_reducible first | refine And.intro ?_ ?_ | intro _))) <;> (repeat' ((first | ((with_reducible apply l_callP); exact rfl; exact zEvs; exact rfl; (with_reducible apply h2); (case hF => exact zFsub); (try any_goals (refine propId ?_; omega))) | ((with_reducible apply l_callP); exact rfl; exact zEvs; exact rfl; (with_reducible apply h3); (case hF => exact zFsub); (try any_goals (refine propId ?_; omega)))) <;> ((try refine zD2 ?_) <;> (repeat' (with_reducible first | refine And.intro ?_ ?_ | intro _))))))
    all_goals (((try refine zR2 ?_) <;> (repeat' (with_reducible first | refine And.intro ?_ ?_ | intro _))) <;> (repeat' ((first | ((with_reducible apply l_callP); exact rfl; exact zEvs; exact rfl; (with_reducible apply hF); (case hF => exact zFsub); (try any_goals (refine propId ?_; omega)))) <;> ((try refine zR2 ?_) <;> (repeat' (with_reducible first | refine And.intro ?_ ?_ | intro _))))))
    refine e_gives rfl zRes ?_
    simp_all [retVal]
  · by_cases h2k : k2 k
    · all_goals (((try refine zR2 ?_) <;> (repeat' (with_reducible first | refine And.intro ?_ ?_ | intro _))) <;> (repeat' ((first | ((with_reducible apply l_callP); exact rfl; exact zEvs; exact rfl; (with_reducible apply l01In_spec); (case hF => exact zFsub); (try any_goals (refine propId ?_; omega))) | ((with_reducible apply l_callP); exact rfl; exact zEvs; exact rfl; (with_reducible apply h1); (case hF => exact zFsub); (try any_goals (refine propId ?_; omega))) | ((with_reducible apply l_callP); exact rfl; exact zEvs; exact rfl; (with_reducible apply h2); (case hF => exact zFsub); (try any_goals (refine propId ?_; omega))) | ((with_reducible apply l_callP); exact rfl; exact zEvs; exact rfl; (with_reducible apply h3); (case hF => exact zFsub); (try any_goals (refine propId ?_; omega)))) <;> ((try refine zR2 ?_) <;> (repeat' (with_reducible first | refine And.intro ?_ ?_ | intro _))))))
      all_goals first | (exfalso; omega) | (exfalso; contradiction) | skip
      · refine e_gives rfl zRes ?_
        simp_all [retVal]
      rename_i b1 _ _
      refine c_draw ([9, 14, 19], []) [.box b1 [.int .i64 k, v1, v2, .complex .f64 ((0, 0) : Nat × Nat).1 ((0, 0) : Nat × Nat).2] 71] [0, 1, 3, 4, 5, 6, 2, 7, 8, 9, 10, 11, 12, 13, 14, 15, 16, 17, 18, 19] (by kernel_rfl) (by kernel_rfl) ?_
      all_goals (((try refine zD2 ?_) <;> (repeat' (with_reducible first | refine And.intro ?_ ?_ | intro _))) <;> (repeat' ((first | ((with_reducible apply l_callP); exact rfl; exact zEvs; exact rfl; (with_reducible apply h2); (case hF => exact zFsub); (try any_goals (refine propId ?_; omega))) | ((with_reducible apply l_callP); exact rfl; exact zEvs; exact rfl; (with_reducible apply h3); (case hF => exact zFsub); (try any_goals (refine propId ?_; omega)))) <;> ((try refine zD2 ?_) <;> (repeat' (with_reducible first | refine And.intro ?_ ?_ | intro _))))))
      all_goals first | (exfalso; contradiction) | skip
      all_goals (refine e_gives rfl zRes ?_; simp only [retVal]; congr 1; first | (rw [eq_comm, decide_eq_false_iff_not]; intro hh; simp_all [IsPol]; done) | (rw [eq_comm, decide_eq_true_iff]; simp_all [IsPol]; done) | skip)
      all_goals (
        apply decide_eq_decide.2
        refine iff_of_true ⟨trivial, trivial⟩ ⟨Decidable.of_not_not (by assumption), fun hh => ?_⟩
        first | exact Decidable.of_not_not (by assumption : ¬ ¬ IsPol _) | exact absurd hh (by assumption) | (exfalso; simp_all; done))
    · obtain rfl : ys = [] := hT1.resolve_left h2k
      all_goals (((try refine zR2 ?_) <;> (repeat' (with_reducible first | refine And.intro ?_ ?_ | intro _))) <;> (repeat' ((first | ((with_reducible apply l_callP); exact rfl; exact zEvs; exact rfl; (with_reducible apply l01In_spec); (case hF => exact zFsub); (try any_goals (refine propId ?_; omega))) | ((with_reducible apply l_callP); exact rfl; exact zEvs; exact rfl; (with_reducible apply h1); (case hF => exact zFsub); (try any_goals (refine propId ?_; omega))) | ((with_reducible apply l_callP); exact rfl; exact zEvs; exact rfl; (with_reducible apply h2); (case hF => exact zFsub); (try any_goals (refine propId ?_; omega))) | ((with_reducible apply l_callP); exact rfl; exact zEvs; exact rfl; (with_reducible apply h3); (case hF => exact zFsub); (try any_goals (refine propId ?_; omega)))) <;> ((try refine zR2 ?_) <;> (repeat' (with_reducible first | refine And.intro ?_ ?_ | intro _))))))
      all_goals first | (exfalso; omega) | (exfalso; contradiction) | skip
      · refine e_gives rfl zRes ?_
        simp_all [retVal]
      rename_i b1 _ _
      refine c_draw ([9, 14, 19], []) [.box b1 [.int .i64 k, v1, v2, .complex .f64 ((0, 0) : Nat × Nat).1 ((0, 0) : Nat × Nat).2] 71] [0, 1, 3, 4, 5, 6, 2, 7, 8, 9, 10, 11, 12, 13, 14, 15, 16, 17, 18, 19] (by kernel_rfl) (by kernel_rfl) ?_
      all_goals (((try refine zD2 ?_) <;> (repeat' (with_reducible first | refine And.intro ?_ ?_ | intro _))) <;> (repeat' ((first | ((with_reducible apply l_callP); exact rfl; exact zEvs; exact rfl; (with_reducible apply h2); (case hF => exact zFsub); (try any_goals (refine propId ?_; omega))) | ((with_reducible apply l_callP); exact rfl; exact zEvs; exact rfl; (with_reducible apply h3); (case hF => exact zFsub); (try any_goals (refine propId ?_; omega)))) <;> ((try refine zD2 ?_) <;> (repeat' (with_reducible first | refine And.intro ?_ ?_ | intro _))))))
      all_goals first | (exfalso; contradiction) | skip
      all_goals (refine e_gives rfl zRes ?_; simp only [retVal]; congr 1; first | (rw [eq_comm, decide_eq_false_iff_not]; intro hh; simp_all [IsPol]; done) | (rw [eq_comm, decide_eq_true_iff]; simp_all [IsPol]; done) | skip)
      all_goals (
        apply decide_eq_decide.2
        refine iff_of_true ⟨trivial, trivial⟩ ⟨Decidable.of_not_not (by assumption), fun hh => ?_⟩
        first | exact Decidable.of_not_not (by assumption : ¬ ¬ IsPol _) | exact absurd hh (by assumption) | (exfalso; simp_all; done))
/-- The text of a task. -/
noncomputable def ttext (k : Int) (zs ys : List (Nat × Nat)) (z : Nat × Nat) : List UInt8 :=
  let a := (tw k).1 ++ [32] ++ joinW 59 (zs.map numt)
  if (tw k).2 = [] then a else a ++ ([32] ++ (tw k).2 ++ [32] ++ joinW 59 ((if k = 1 then [z] else ys).map numt))
theorem lent3 {L : List Own} {F : List Fact} {φ χ ψ : Fact} (h : ∀ w, Owns w L → φ.holds w (fun _ => False)) (h1 : χ ∈ F) (h2 : ψ ∈ F) : ∀ ω, ω ∈ [φ, χ, ψ] → ω ∈ F ∨ (∀ w, Owns w L → ω.holds w (fun _ => False)) := fun ω hω => by
  cases hω with
  | head => exact .inr h
  | tail _ hω => cases hω with
    | head => exact .inl h1
    | tail _ hω => rw [List.mem_singleton.1 hω]; exact .inl h2
theorem ttext_spec (k : Int) (v1 v2 : Value) (zs ys : List (Nat × Nat)) (z : Nat × Nat) (hk : 0 ≤ k ∧ k ≤ 5) (hz : FinN zs) (hy : FinN ys) (hzz : Fin64 z.1 ∧ Fin64 z.2) (hzl : zs.length ≤ 100 ∧ zs ≠ []) (hyl : ys.length ≤ 100 ∧ (k2 k → ys ≠ [])) :
    Spec Tryz.prog 135 [vTask k v1 v2 z] [] [fList 1 rCx v1 zs, fList 1 rCx v2 ys, fTab, fTz] (Gives (.string ⟨(ttext k zs ys z).toArray⟩)) := by
  refine enter Tryz.func135 Tryz.ntmps135 rfl (by kernel_rfl) zCon rfl fun G => ?_
  refine c_isList (v := v1) zMem fun hs1 => ?_
  refine c_isList (v := v2) zMem fun hs2 => ?_
  have h0 := taskWords_spec k
  have h1 := numbersText_spec v1 zs hz hzl.2 hzl.1
  obtain ⟨w1, w2, hw⟩ : ∃ w1 w2, tw k = (w1, w2) := ⟨_, _, rfl⟩
  have hwl : w1.length ≤ 10 ∧ w2.length ≤ 10 := by
    have e1 := congrArg Prod.fst hw
    have e2 := congrArg Prod.snd hw
    dsimp only at e1 e2
    subst e1; subst e2
    unfold tw
    (repeat' split) <;> exact ⟨by decide, by decide⟩
  have hjl : ∀ xs : List (Nat × Nat), FinN xs → xs.length ≤ 100 → (joinW 59 (xs.map numt)).length ≤ 100000 := fun xs hx hl => by
    have e1 := joinW_len 59 201 (xs.map numt) fun w hw => by
      obtain ⟨z, hz1, rfl⟩ := List.mem_map.1 hw
      obtain ⟨⟨_, A, hA⟩, ⟨_, B, hB⟩⟩ := hx z hz1
      exact numt_len hA hB
    rw [List.length_map] at e1
    omega
  have hJ1 := hjl zs hz hzl.1
  have htt : ttext k zs ys z = if w2 = [] then w1 ++ [32] ++ joinW 59 (zs.map numt) else w1 ++ [32] ++ joinW 59 (zs.map numt) ++ ([32] ++ w2 ++ [32] ++ joinW 59 ((if k = 1 then [z] else ys).map numt)) := by unfold ttext; rw [hw]
  rw [hw] at h0
  dsimp only at h0
  obtain ⟨J1, hJ1'⟩ : ∃ J1, J1 = joinW 59 (zs.map numt) := ⟨_, rfl⟩
  rw [← hJ1'] at h1 hJ1 htt
  have htw2 : w2 ≠ [] → ¬ k = 1 → k2 k := fun e1 e2 => by
    have e3 := congrArg Prod.snd hw
    dsimp only at e3
    subst e3
    revert e1
    unfold tw k2
    (repeat' split) <;> first | omega | (intro e; exact absurd rfl e)
  all_goals (((try refine zR2 ?_) <;> (repeat' (with_reducible first | refine And.intro ?_ ?_ | intro _))) <;> (repeat' ((first | ((with_reducible apply l_callP); exact rfl; exact zEvs; exact rfl; (with_reducible apply h0); (case hF => exact zFsub); (try any_goals (refine propId ?_; omega))) | ((with_reducible apply l_callP); exact rfl; exact zEvs; exact rfl; (with_reducible apply h1); (case hF => exact zFsub); (try any_goals (refine propId ?_; omega)))) <;> ((try refine zR2 ?_) <;> (repeat' (with_reducible first | refine And.intro ?_ ?_ | intro _))))))
  · rename_i v3
    have hJ2 := hjl [(z.1, z.2)] (fun w hw => by rw [List.mem_singleton.1 hw]; exact hzz) (by simp)
    have hN := numbersText_spec v3 [(z.1, z.2)] (fun w hw => by rw [List.mem_singleton.1 hw]; exact hzz) (by simp) (by simp)
    rw [if_pos (by assumption : k = 1), if_neg (by assumption)] at htt
    rw [show [z] = [(z.1, z.2)] from rfl] at htt
    obtain ⟨J2, hJ2'⟩ : ∃ J2, J2 = joinW 59 ([(z.1, z.2)].map numt) := ⟨_, rfl⟩
    rw [← hJ2'] at hJ2 hN htt
    refine l_isRow (v := v3) (.own (.head _)) fun hsv3 _ => ?_
    all_goals ((try refine zR2 ?_) <;> (repeat' (with_reducible first | refine And.intro ?_ ?_ | intro _)))
    refine l_callH rfl zEvs rfl hN (lent3 (loanCx (.head _)) zMem zMem) ?_
    all_goals ((try refine zR2 ?_) <;> (repeat' (with_reducible first | refine And.intro ?_ ?_ | intro _)))
    refine e_gives rfl zRes ?_
    simp only [retVal]
    rw [htt]
  · have hk2 := htw2 (by assumption) (by assumption)
    have hJ2 := hjl ys hy hyl.1
    have hN := numbersText_spec v2 ys hy (hyl.2 hk2) hyl.1
    rw [if_neg (by assumption : ¬ k = 1), if_neg (by assumption)] at htt
    obtain ⟨J2, hJ2'⟩ : ∃ J2, J2 = joinW 59 (ys.map numt) := ⟨_, rfl⟩
    rw [← hJ2'] at hJ2 hN htt
    all_goals ((try refine zR2 ?_) <;> (repeat' (with_reducible first | refine And.intro ?_ ?_ | intro _)))
    refine l_callP rfl zEvs rfl hN zFsub ?_
    all_goals ((try refine zR2 ?_) <;> (repeat' (with_reducible first | refine And.intro ?_ ?_ | intro _)))
    refine e_gives rfl zRes ?_
    simp only [retVal]
    rw [htt]
  · refine e_gives rfl zRes ?_
    simp only [retVal]
    rw [htt, if_pos (Decidable.of_not_not (by assumption))]
end Go.Proofs.YtbllgmcpebifhaaGreatDoor.K
