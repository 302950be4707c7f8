/- The reference's functions of exact numbers. -/
import Derived.Test.YtbllgmcpebifhaaGreatDoorZVp
import Derived.Test.YtbllgmcpebifhaaGreatDoorZSp
import Derived.Test.YtbllgmcpebifhaaGreatDoorZVb

section
namespace Go.Proofs.YtbllgmcpebifhaaGreatDoor.K
open Go Go.RowKit Go.Lib
set_option linter.all false
set_option maxRecDepth 4000
set_option maxHeartbeats 1000000
set_option exponentiation.threshold 40000

def fit (v e : Int) : (Int × Int) × Int := if v.natAbs < 2 ^ 4800 ∧ -5000 ≤ e ∧ e ≤ 5000 then ((v, e), 0) else ((0, 0), 3)
theorem dr_fit (v p : Int) : dr v p = fit (nv v) (ne v p) := rfl
theorem l03Fit_spec (v e : Int) (u : Value) (hN : Nrm v e) : Spec Tryz.prog 95 [vDyadic (sgn v) u e] [] [fList 1 (rInt .i64) u (limbs v.natAbs)] (PRs (fit v e)) := by
  have hI := l03Is_spec (sgn v) e u (limbs v.natAbs)
  unfold fit
  by_cases h : v.natAbs < 2 ^ 4800 ∧ -5000 ≤ e ∧ e ≤ 5000
  · rw [if_pos h]
    rw [decide_eq_true (nrm_isD hN h.1 h.2)] at hI
    clear h
    refine enter Tryz.func95 Tryz.ntmps95 rfl (by kernel_rfl) zCon rfl fun G => ?_
    refine c_isList (v := u) zMem fun hs1 => ?_
    all_goals (((try refine zR2 ?_) <;> (repeat' (with_reducible first | refine And.intro ?_ ?_ | intro _))) <;> (repeat' ((first | ((with_reducible apply l_callP); exact rfl; exact zEvs; exact rfl; (with_reducible apply hI); (case hF => exact zFsub); (try any_goals (refine propId ?_; omega)))) <;> ((try refine zR2 ?_) <;> (repeat' (with_reducible first | refine And.intro ?_ ?_ | intro _))))))
    all_goals (first | (exfalso; omega) | skip)
    exact e_resT rfl zRes .nil (fsub_cons zMem fsub_nil) ⟨u, rfl, rfl, rfl⟩
  · rw [if_neg h]
    rw [decide_eq_false (fun hD => h ⟨(isD_nrm hD).2.1, (isD_nrm hD).2.2⟩)] at hI
    clear h
    refine enter Tryz.func95 Tryz.ntmps95 rfl (by kernel_rfl) zCon rfl fun G => ?_
    refine c_isList (v := u) zMem fun hs1 => ?_
    all_goals (((try refine zR2 ?_) <;> (repeat' (with_reducible first | refine And.intro ?_ ?_ | intro _))) <;> (repeat' ((first | ((with_reducible apply l_callP); exact rfl; exact zEvs; exact rfl; (with_reducible apply hI); (case hF => exact zFsub); (try any_goals (refine propId ?_; omega)))) <;> ((try refine zR2 ?_) <;> (repeat' (with_reducible first | refine And.intro ?_ ?_ | intro _))))))
    all_goals (first | (exfalso; omega) | skip)
    refine ends_nilInts .i64 ?_
    exact e_resT rfl zRes .nil (fsub_cons (.head _) fsub_nil) ⟨.slice none 0 0, rfl, rfl, by simp [limbs_zero]⟩
def bcode (s1 e1 : Int) (l1 : List Int) (s2 e2 : Int) (l2 : List Int) : Int := if IsD s1 e1 l1 ∧ IsD s2 e2 l2 then 0 else 1
theorem l03Both_spec (s1 s2 e1 e2 : Int) (u1 u2 : Value) (l1 l2 : List Int) : Spec Tryz.prog 94 [vDyadic s1 u1 e1, vDyadic s2 u2 e2] [] [fList 1 (rInt .i64) u1 l1, fList 1 (rInt .i64) u2 l2] (Gives (.int .i64 (bcode s1 e1 l1 s2 e2 l2))) := by
  have hI1 := l03Is_spec s1 e1 u1 l1
  have hI2 := l03Is_spec s2 e2 u2 l2
  unfold bcode
  refine enter Tryz.func94 Tryz.ntmps94 rfl (by kernel_rfl) zCon rfl fun G => ?_
  refine c_isList (v := u1) zMem fun hs1 => ?_
  refine c_isList (v := u2) zMem fun hs2 => ?_
  by_cases h1 : IsD s1 e1 l1
  · rw [decide_eq_true h1] at hI1
    by_cases h2 : IsD s2 e2 l2
    · rw [decide_eq_true h2] at hI2
      rw [if_pos ⟨h1, h2⟩]
      all_goals (((try refine zR2 ?_) <;> (repeat' (with_reducible first | refine And.intro ?_ ?_ | intro _))) <;> (repeat' ((first | ((with_reducible apply l_callP); exact rfl; exact zEvs; exact rfl; (with_reducible apply hI1); (case hF => exact zFsub); (try any_goals (refine propId ?_; omega))) | ((with_reducible apply l_callP); exact rfl; exact zEvs; exact rfl; (with_reducible apply hI2); (case hF => exact zFsub); (try any_goals (refine propId ?_; omega)))) <;> ((try refine zR2 ?_) <;> (repeat' (with_reducible first | refine And.intro ?_ ?_ | intro _))))))
      all_goals (first | (exfalso; omega) | skip)
      (refine e_gives rfl zRes ?_; first | rfl | (simp [retVal, *]; done) | (simp_all [retVal]; done) | (simp only [retVal]))
    · rw [decide_eq_false h2] at hI2
      rw [if_neg (fun h => h2 h.2)]
      all_goals (((try refine zR2 ?_) <;> (repeat' (with_reducible first | refine And.intro ?_ ?_ | intro _))) <;> (repeat' ((first | ((with_reducible apply l_callP); exact rfl; exact zEvs; exact rfl; (with_reducible apply hI1); (case hF => exact zFsub); (try any_goals (refine propId ?_; omega))) | ((with_reducible apply l_callP); exact rfl; exact zEvs; exact rfl; (with_reducible apply hI2); (case hF => exact zFsub); (try any_goals (refine propId ?_; omega)))) <;> ((try refine zR2 ?_) <;> (repeat' (with_reducible first | refine And.intro ?_ ?_ | intro _))))))
      all_goals (first | (exfalso; omega) | skip)
      (refine e_gives rfl zRes ?_; first | rfl | (simp [retVal, *]; done) | (simp_all [retVal]; done) | (simp only [retVal]))
  · rw [decide_eq_false h1] at hI1
    rw [if_neg (fun h => h1 h.1)]
    all_goals (((try refine zR2 ?_) <;> (repeat' (with_reducible first | refine And.intro ?_ ?_ | intro _))) <;> (repeat' ((first | ((with_reducible apply l_callP); exact rfl; exact zEvs; exact rfl; (with_reducible apply hI1); (case hF => exact zFsub); (try any_goals (refine propId ?_; omega)))) <;> ((try refine zR2 ?_) <;> (repeat' (with_reducible first | refine And.intro ?_ ?_ | intro _))))))
    all_goals (first | (exfalso; omega) | skip)
    (refine e_gives rfl zRes ?_; first | rfl | (simp [retVal, *]; done) | (simp_all [retVal]; done) | (simp only [retVal]))
theorem vat_inj {v e w f K : Int} (hv : Nrm v e) (hw : Nrm w f) (h1 : 0 ≤ e + K) (h2 : 0 ≤ f + K) (h : vat v e K = vat w f K) : v = w ∧ e = f := by
  unfold vat at h
  rcases hv with ⟨rfl, rfl⟩ | hv
  · rw [Int.zero_mul] at h
    have hw0 : w = 0 := by
      rcases Int.mul_eq_zero.1 h.symm with h | h
      · exact h
      · exact absurd h (Int.ne_of_gt (pw_pos _))
    rcases hw with ⟨_, rfl⟩ | hw
    · exact ⟨hw0.symm, rfl⟩
    · rw [hw0] at hw; exact absurd hw (by decide)
  · rcases hw with ⟨rfl, rfl⟩ | hw
    · rw [Int.zero_mul] at h
      rcases Int.mul_eq_zero.1 h with h | h
      · rw [h] at hv; exact absurd hv (by decide)
      · exact absurd h (Int.ne_of_gt (pw_pos _))
    · obtain ⟨h3, h4⟩ := odd_pow h hv hw
      exact ⟨h3, by omega⟩
theorem SumIs.same {v1 e1 v2 e2 v e w f : Int} (h : SumIs v1 e1 v2 e2 v e) (k : SumIs v1 e1 v2 e2 w f) : v = w ∧ e = f := by
  have h1 := h.2 (e1.natAbs + e2.natAbs + e.natAbs + f.natAbs) (by omega) (by omega) (by omega)
  have h2 := k.2 (e1.natAbs + e2.natAbs + e.natAbs + f.natAbs) (by omega) (by omega) (by omega)
  exact vat_inj h.1 k.1 (by omega) (by omega) (h1.trans h2.symm)
theorem sgn_nv (v : Int) : sgn (nv v) = sgn v := by
  have h := nv_mul v
  have hp := pw_pos (twos v.natAbs)
  generalize ((2 ^ twos v.natAbs : Nat) : Int) = P at h hp
  unfold sgn
  by_cases h0 : v = 0
  · rw [if_pos h0, if_pos (nv_zero.2 h0)]
  · rw [if_neg h0, if_neg (fun k => h0 (nv_zero.1 k))]
    by_cases h1 : v < 0
    · have : nv v < 0 := Int.not_le.1 fun k => by
        have := Int.mul_nonneg k (Int.le_of_lt hp)
        omega
      rw [if_pos h1, if_pos this]
    · have : ¬ nv v < 0 := fun k => by
        have := Int.mul_neg_of_neg_of_pos k hp
        omega
      rw [if_neg h1, if_neg this]
section
variable (s1 s2 e1 e2 : Int) (u1 u2 : Value) (l1 l2 : List Int)
theorem AddS_bad (h : ¬ (IsD s1 e1 l1 ∧ IsD s2 e2 l2)) : Spec Tryz.prog 25 [vDyadic s1 u1 e1, vDyadic s2 u2 e2] [] [fList 1 (rInt .i64) u1 l1, fList 1 (rInt .i64) u2 l2] (PRs ((0, 0), 1)) := by
  have hC := l03Both_spec s1 s2 e1 e2 u1 u2 l1 l2
  unfold bcode at hC
  rw [if_neg h] at hC
  refine enter Tryz.func25 Tryz.ntmps25 rfl (by kernel_rfl) zCon rfl fun G => ?_
  refine c_isList (v := u1) zMem fun hs1 => ?_
  refine c_isList (v := u2) zMem fun hs2 => ?_
  all_goals (((try refine zR2 ?_) <;> (repeat' (with_reducible first | refine And.intro ?_ ?_ | intro _))) <;> (repeat' ((first | ((with_reducible apply l_callP); exact rfl; exact zEvs; exact rfl; (with_reducible apply hC); (case hF => exact zFsub); (try any_goals (refine propId ?_; omega)))) <;> ((try refine zR2 ?_) <;> (repeat' (with_reducible first | refine And.intro ?_ ?_ | intro _))))))
  all_goals (first | (exfalso; omega) | skip)
  refine ends_nilInts .i64 ?_
  exact e_resT rfl zRes .nil (fsub_cons (.head _) fsub_nil) ⟨.slice none 0 0, rfl, rfl, by simp [limbs_zero]⟩
theorem CmpS_bad (h : ¬ (IsD s1 e1 l1 ∧ IsD s2 e2 l2)) : Spec Tryz.prog 27 [vDyadic s1 u1 e1, vDyadic s2 u2 e2] [] [fList 1 (rInt .i64) u1 l1, fList 1 (rInt .i64) u2 l2] (Gives (.tuple #[.int .i64 0, .int .i64 1])) := by
  have hC := l03Both_spec s1 s2 e1 e2 u1 u2 l1 l2
  unfold bcode at hC
  rw [if_neg h] at hC
  refine enter Tryz.func27 Tryz.ntmps27 rfl (by kernel_rfl) zCon rfl fun G => ?_
  refine c_isList (v := u1) zMem fun hs1 => ?_
  refine c_isList (v := u2) zMem fun hs2 => ?_
  all_goals (((try refine zR2 ?_) <;> (repeat' (with_reducible first | refine And.intro ?_ ?_ | intro _))) <;> (repeat' ((first | ((with_reducible apply l_callP); exact rfl; exact zEvs; exact rfl; (with_reducible apply hC); (case hF => exact zFsub); (try any_goals (refine propId ?_; omega)))) <;> ((try refine zR2 ?_) <;> (repeat' (with_reducible first | refine And.intro ?_ ?_ | intro _))))))
  all_goals (first | (exfalso; omega) | skip)
  (refine e_gives rfl zRes ?_; first | rfl | (simp [retVal, *]; done) | (simp_all [retVal]; done) | (simp only [retVal]))
end
section
variable (v1 e1 v2 e2 : Int) (u1 u2 : Value) (hD1 : IsD (sgn v1) e1 (limbs v1.natAbs)) (hD2 : IsD (sgn v2) e2 (limbs v2.natAbs))
include hD1 hD2
theorem AddS_spec : Spec Tryz.prog 25 [vDyadic (sgn v1) u1 e1, vDyadic (sgn v2) u2 e2] [] [fList 1 (rInt .i64) u1 (limbs v1.natAbs), fList 1 (rInt .i64) u2 (limbs v2.natAbs)] (PRs (dr (sumV v1 e1 v2 e2) (min e1 e2))) := by
  obtain ⟨_, hb1, he1⟩ := isD_nrm hD1
  obtain ⟨_, hb2, he2⟩ := isD_nrm hD2
  have hA := l03Add_spec u1 u2 v1 e1 v2 e2 hb1 hb2 he1 he2 (by omega)
  have hC := l03Both_spec (sgn v1) (sgn v2) e1 e2 u1 u2 (limbs v1.natAbs) (limbs v2.natAbs)
  unfold bcode at hC
  rw [if_pos ⟨hD1, hD2⟩] at hC
  clear hb1 hb2
  refine enter Tryz.func25 Tryz.ntmps25 rfl (by kernel_rfl) zCon rfl fun G => ?_
  refine c_isList (v := u1) zMem fun hs1 => ?_
  refine c_isList (v := u2) zMem fun hs2 => ?_
  all_goals (((try refine zR2 ?_) <;> (repeat' (with_reducible first | refine And.intro ?_ ?_ | intro _))) <;> (repeat' ((first | ((with_reducible apply l_callP); exact rfl; exact zEvs; exact rfl; (with_reducible apply hC); (case hF => exact zFsub); (try any_goals (refine propId ?_; omega)))) <;> ((try refine zR2 ?_) <;> (repeat' (with_reducible first | refine And.intro ?_ ?_ | intro _))))))
  all_goals (first | (exfalso; omega) | skip)
  refine l_call rfl zEvs rfl hA zTake zFsub ?_
  rintro _ L' F' ⟨v, e, hS, _, u, rfl, rfl, rfl⟩
  refine l_isList (.head _) fun hsu => ?_
  obtain ⟨rfl, rfl⟩ := hS.same (sum_both v1 e1 v2 e2)
  all_goals ((try refine zR2 ?_) <;> (repeat' (with_reducible first | refine And.intro ?_ ?_ | intro _)))
  refine l_call rfl zEvs rfl (l03Fit_spec _ _ u hS.1) zTake zFsub ?_
  rintro _ L' F' ⟨u2, rfl, rfl, rfl⟩
  refine l_isList (.head _) fun hsu2 => ?_
  rw [← dr_fit]
  generalize dr (sumV v1 e1 v2 e2) (min e1 e2) = d
  all_goals ((try refine zR2 ?_) <;> (repeat' (with_reducible first | refine And.intro ?_ ?_ | intro _)))
  exact e_resT rfl zRes .nil (fsub_cons zMem fsub_nil) ⟨u2, rfl, rfl, rfl⟩
theorem CmpS_spec : Spec Tryz.prog 27 [vDyadic (sgn v1) u1 e1, vDyadic (sgn v2) u2 e2] [] [fList 1 (rInt .i64) u1 (limbs v1.natAbs), fList 1 (rInt .i64) u2 (limbs v2.natAbs)] (Gives (.tuple #[.int .i64 (sgn (sumV v1 e1 (-v2) e2)), .int .i64 0])) := by
  obtain ⟨_, hb1, he1⟩ := isD_nrm hD1
  obtain ⟨_, hb2, he2⟩ := isD_nrm hD2
  have hA := l03Compare_spec u1 u2 v1 e1 v2 e2 hb1 hb2 he1 he2 (by omega)
  have hC := l03Both_spec (sgn v1) (sgn v2) e1 e2 u1 u2 (limbs v1.natAbs) (limbs v2.natAbs)
  unfold bcode at hC
  rw [if_pos ⟨hD1, hD2⟩] at hC
  clear hb1 hb2
  refine enter Tryz.func27 Tryz.ntmps27 rfl (by kernel_rfl) zCon rfl fun G => ?_
  refine c_isList (v := u1) zMem fun hs1 => ?_
  refine c_isList (v := u2) zMem fun hs2 => ?_
  all_goals (((try refine zR2 ?_) <;> (repeat' (with_reducible first | refine And.intro ?_ ?_ | intro _))) <;> (repeat' ((first | ((with_reducible apply l_callP); exact rfl; exact zEvs; exact rfl; (with_reducible apply hC); (case hF => exact zFsub); (try any_goals (refine propId ?_; omega)))) <;> ((try refine zR2 ?_) <;> (repeat' (with_reducible first | refine And.intro ?_ ?_ | intro _))))))
  all_goals (first | (exfalso; omega) | skip)
  refine l_call rfl zEvs rfl hA zTake zFsub ?_
  rintro _ L' F' ⟨v, e, hS, rfl, rfl, rfl⟩
  obtain ⟨rfl, rfl⟩ := hS.same (sum_both v1 e1 (-v2) e2)
  rw [sgn_nv]
  generalize sgn (sumV v1 e1 (-v2) e2) = c
  all_goals ((try refine zR2 ?_) <;> (repeat' (with_reducible first | refine And.intro ?_ ?_ | intro _)))
  (refine e_gives rfl zRes ?_; first | rfl | (simp [retVal, *]; done) | (simp_all [retVal]; done) | (simp only [retVal]))
end
theorem l03Range_spec (sg e k : Int) (u : Value) (l : List Int) : Spec Tryz.prog 111 [vDyadic sg u e, .int .i64 k, .int .i64 (-1000), .int .i64 1000] [] [fList 1 (rInt .i64) u l] (Gives (.int .i64 (dcode sg e l k))) := by
  have hI := l03Is_spec sg e u l
  have hB := l01In_spec k (-1000) 1000
  refine enter Tryz.func111 Tryz.ntmps111 rfl (by kernel_rfl) zCon rfl fun G => ?_
  refine c_isList (v := u) zMem fun hs1 => ?_
  unfold dcode
  by_cases hD : IsD sg e l
  · rw [decide_eq_true hD] at hI
    rw [if_pos hD]
    by_cases hk : -1000 ≤ k ∧ k ≤ 1000
    · rw [decide_eq_true hk] at hB
      rw [if_pos hk]
      all_goals (((try refine zR2 ?_) <;> (repeat' (with_reducible first | refine And.intro ?_ ?_ | intro _))) <;> (repeat' ((first | ((with_reducible apply l_callP); exact rfl; exact zEvs; exact rfl; (with_reducible apply hI); (case hF => exact zFsub); (try any_goals (refine propId ?_; omega))) | ((with_reducible apply l_callP); exact rfl; exact zEvs; exact rfl; (with_reducible apply hB); (case hF => exact zFsub); (try any_goals (refine propId ?_; omega)))) <;> ((try refine zR2 ?_) <;> (repeat' (with_reducible first | refine And.intro ?_ ?_ | intro _))))))
      all_goals (first | (exfalso; omega) | skip)
      (refine e_gives rfl zRes ?_; first | rfl | (simp [retVal, *]; done) | (simp_all [retVal]; done) | (simp only [retVal]))
    · rw [decide_eq_false hk] at hB
      rw [if_neg hk]
      all_goals (((try refine zR2 ?_) <;> (repeat' (with_reducible first | refine And.intro ?_ ?_ | intro _))) <;> (repeat' ((first | ((with_reducible apply l_callP); exact rfl; exact zEvs; exact rfl; (with_reducible apply hI); (case hF => exact zFsub); (try any_goals (refine propId ?_; omega))) | ((with_reducible apply l_callP); exact rfl; exact zEvs; exact rfl; (with_reducible apply hB); (case hF => exact zFsub); (try any_goals (refine propId ?_; omega)))) <;> ((try refine zR2 ?_) <;> (repeat' (with_reducible first | refine And.intro ?_ ?_ | intro _))))))
      all_goals (first | (exfalso; omega) | skip)
      (refine e_gives rfl zRes ?_; first | rfl | (simp [retVal, *]; done) | (simp_all [retVal]; done) | (simp only [retVal]))
  · rw [decide_eq_false hD] at hI
    rw [if_neg hD]
    all_goals (((try refine zR2 ?_) <;> (repeat' (with_reducible first | refine And.intro ?_ ?_ | intro _))) <;> (repeat' ((first | ((with_reducible apply l_callP); exact rfl; exact zEvs; exact rfl; (with_reducible apply hI); (case hF => exact zFsub); (try any_goals (refine propId ?_; omega)))) <;> ((try refine zR2 ?_) <;> (repeat' (with_reducible first | refine And.intro ?_ ?_ | intro _))))))
    all_goals (first | (exfalso; omega) | skip)
    (refine e_gives rfl zRes ?_; first | rfl | (simp [retVal, *]; done) | (simp_all [retVal]; done) | (simp only [retVal]))
theorem l03Ceil_spec (u : Value) (v e k : Int) (hl : v.natAbs < 2 ^ 4800) (he : -5000 ≤ e ∧ e ≤ 5000) (hk : -2000 ≤ k ∧ k ≤ 2000) : Spec Tryz.prog 114 [vDyadic (sgn v) u e, .int .i64 k] [] [fList 1 (rInt .i64) u (limbs v.natAbs)] (PDw (-(nv (flV (-v) e k))) (ne (flV (-v) e k) (flE e k))) := by
  have hm : (limbs v.natAbs).length ≤ 200 := limbs_two 200 hl
  have hl2 : (-v).natAbs < 2 ^ 4800 := by rw [Int.natAbs_neg]; exact hl
  have hF := fun u => l03Floor_spec u (-v) e k hl2 he hk
  have hb : (nv (flV (-v) e k)).natAbs < 2 ^ 4800 := by
    refine Nat.lt_of_le_of_lt (nv_le _) ?_
    unfold flV
    split
    · exact hl2
    · generalize -v = w at hl2
      have hp := pw_pos (-k - e).toNat
      generalize ((2 ^ (-k - e).toNat : Nat) : Int) = P at hp
      refine Nat.lt_of_le_of_lt ?_ hl2
      rcases Int.le_total 0 w with h | h
      · have h2 := Int.ediv_nonneg h (Int.le_of_lt hp)
        have h3 : w / P ≤ w := Int.ediv_le_self P h
        omega
      · have h2 : w / P ≤ 0 := by
          have := Int.ediv_le_ediv hp h
          rwa [Int.zero_ediv] at this
        have h3 : w ≤ w / P := by
          rw [Int.le_ediv_iff_mul_le hp]
          have : w * P ≤ w * 1 := Int.mul_le_mul_of_nonpos_left h (by omega)
          omega
        omega
  have hm2 : (limbs (nv (flV (-v) e k)).natAbs).length ≤ 200 := limbs_two 200 hb
  clear hl hl2 hb
  refine enter Tryz.func114 Tryz.ntmps114 rfl (by kernel_rfl) zCon rfl fun G => ?_
  refine c_isList (v := u) zMem fun hs1 => ?_
  all_goals ((try refine zR2 ?_) <;> (repeat' (with_reducible first | refine And.intro ?_ ?_ | intro _)))
  refine l_call rfl zEvs rfl (l03Neg_spec u v e (by omega)) zTake zFsub ?_
  rintro _ L' F' ⟨u2, rfl, rfl, rfl⟩
  refine l_isList (.head _) fun hsu2 => ?_
  all_goals ((try refine zR2 ?_) <;> (repeat' (with_reducible first | refine And.intro ?_ ?_ | intro _)))
  refine l_call rfl zEvs rfl (hF u2) zTake zFsub ?_
  rintro _ L' F' ⟨u3, rfl, rfl, rfl⟩
  refine l_isList (.head _) fun hsu3 => ?_
  generalize nv (flV (-v) e k) = w at hm2 ⊢
  generalize ne (flV (-v) e k) (flE e k) = f
  all_goals ((try refine zR2 ?_) <;> (repeat' (with_reducible first | refine And.intro ?_ ?_ | intro _)))
  refine l_call rfl zEvs rfl (l03Neg_spec u3 w f (by omega)) zTake zFsub ?_
  rintro _ L' F' ⟨u4, rfl, rfl, rfl⟩
  refine l_isList (.head _) fun hsu4 => ?_
  all_goals ((try refine zR2 ?_) <;> (repeat' (with_reducible first | refine And.intro ?_ ?_ | intro _)))
  exact e_resT rfl zRes .nil (fsub_cons zMem fsub_nil) ⟨u4, rfl, rfl, rfl⟩
end Go.Proofs.YtbllgmcpebifhaaGreatDoor.K
end

section
/- The reference's floors and ceilings; what they are (plain). -/
namespace Go.Proofs.YtbllgmcpebifhaaGreatDoor.K
open Go Go.RowKit Go.Lib
set_option linter.all false
set_option maxRecDepth 4000
set_option maxHeartbeats 1000000
set_option exponentiation.threshold 40000

theorem dr_eq {X p Y q K : Int} (h1 : 0 ≤ p + K) (h2 : 0 ≤ q + K) (h3 : 0 ≤ ne X p + K) (h4 : 0 ≤ ne Y q + K) (h : vat X p K = vat Y q K) : nv X = nv Y ∧ ne X p = ne Y q :=
  vat_inj (nv_nrm X p) (nv_nrm Y q) h3 h4 (by rw [vat_nv _ _ _ h1, vat_nv _ _ _ h2, h])
theorem shl_fl (v e k : Int) : nv (shl v (e + k)) = nv (flV v e k) ∧ ne (shl v (e + k)) (-k) = ne (flV v e k) (flE e k) := by
  unfold shl flV flE
  by_cases h : -k ≤ e
  · rw [if_pos h, if_pos h, if_pos (by omega), ← pw_cast]
    generalize hY : v * ((2 ^ (e + k).toNat : Nat) : Int) = Y
    refine dr_eq (K := (e.natAbs : Int) + k.natAbs + (ne Y (-k)).natAbs + (ne v e).natAbs) (by omega) (by omega) (by omega) (by omega) ?_
    rw [← hY]
    unfold vat
    rw [← pw_add]
    congr 3
    omega
  · rw [if_neg h, if_neg h, if_neg (by omega), ← pw_cast, show (-(e + k)).toNat = (-k - e).toNat by omega]
    exact ⟨rfl, rfl⟩
theorem nv_neg (v : Int) : nv (-v) = -nv v ∧ ∀ p, ne (-v) p = ne v p := by
  unfold nv ne
  rw [Int.natAbs_neg]
  refine ⟨Int.neg_tdiv _ _, fun p => ?_⟩
  by_cases h : v = 0
  · rw [if_pos h, if_pos (by omega)]
  · rw [if_neg h, if_neg (by omega)]
theorem dr_floor (v e k : Int) : fit (nv (flV v e k)) (ne (flV v e k) (flE e k)) = dr (shl v (e + k)) (-k) := by
  rw [dr_fit, (shl_fl v e k).1, (shl_fl v e k).2]
theorem dr_ceil (v e k : Int) : fit (-(nv (flV (-v) e k))) (ne (flV (-v) e k) (flE e k)) = dr (-(shl (-v) (e + k))) (-k) := by
  rw [dr_fit, (nv_neg _).1, (nv_neg _).2, (shl_fl (-v) e k).1, (shl_fl (-v) e k).2]
theorem FlS_bad (sg e k : Int) (u : Value) (l : List Int) (h : ¬ dcode sg e l k = 0) : Spec Tryz.prog 35 [vDyadic sg u e, .int .i64 k] [] [fList 1 (rInt .i64) u l] (PRs ((0, 0), dcode sg e l k)) := by
  have hC := l03Range_spec sg e k u l
  generalize dcode sg e l k = c at h hC ⊢
  refine enter Tryz.func35 Tryz.ntmps35 rfl (by kernel_rfl) zCon rfl fun G => ?_
  refine c_isList (v := u) zMem fun hs1 => ?_
  all_goals (((try refine zR2 ?_) <;> (repeat' (with_reducible first | refine And.intro ?_ ?_ | intro _))) <;> (repeat' ((first | ((with_reducible apply l_callP); exact rfl; exact zEvs; exact rfl; (with_reducible apply hC); (case hF => exact zFsub); (try any_goals (refine propId ?_; omega)))) <;> ((try refine zR2 ?_) <;> (repeat' (with_reducible first | refine And.intro ?_ ?_ | intro _))))))
  all_goals (first | (exfalso; omega) | skip)
  refine ends_nilInts .i64 ?_
  exact e_resT rfl zRes .nil (fsub_cons (.head _) fsub_nil) ⟨.slice none 0 0, rfl, rfl, by simp [limbs_zero]⟩
theorem ClS_bad (sg e k : Int) (u : Value) (l : List Int) (h : ¬ dcode sg e l k = 0) : Spec Tryz.prog 37 [vDyadic sg u e, .int .i64 k] [] [fList 1 (rInt .i64) u l] (PRs ((0, 0), dcode sg e l k)) := by
  have hC := l03Range_spec sg e k u l
  generalize dcode sg e l k = c at h hC ⊢
  refine enter Tryz.func37 Tryz.ntmps37 rfl (by kernel_rfl) zCon rfl fun G => ?_
  refine c_isList (v := u) zMem fun hs1 => ?_
  all_goals (((try refine zR2 ?_) <;> (repeat' (with_reducible first | refine And.intro ?_ ?_ | intro _))) <;> (repeat' ((first | ((with_reducible apply l_callP); exact rfl; exact zEvs; exact rfl; (with_reducible apply hC); (case hF => exact zFsub); (try any_goals (refine propId ?_; omega)))) <;> ((try refine zR2 ?_) <;> (repeat' (with_reducible first | refine And.intro ?_ ?_ | intro _))))))
  all_goals (first | (exfalso; omega) | skip)
  refine ends_nilInts .i64 ?_
  exact e_resT rfl zRes .nil (fsub_cons (.head _) fsub_nil) ⟨.slice none 0 0, rfl, rfl, by simp [limbs_zero]⟩
theorem FlS_spec (v e k : Int) (u : Value) (hD : IsD (sgn v) e (limbs v.natAbs)) (hk : -1000 ≤ k ∧ k ≤ 1000) : Spec Tryz.prog 35 [vDyadic (sgn v) u e, .int .i64 k] [] [fList 1 (rInt .i64) u (limbs v.natAbs)] (PRs (dr (shl v (e + k)) (-k))) := by
  have hC := l03Range_spec (sgn v) e k u (limbs v.natAbs)
  rw [dcode_zero hD hk] at hC
  obtain ⟨_, hb, he⟩ := isD_nrm hD
  have hF := l03Floor_spec u v e k hb he (by omega)
  clear hb
  rw [← dr_floor]
  have hN := nv_nrm (flV v e k) (flE e k)
  generalize nv (flV v e k) = w at hF hN ⊢
  generalize ne (flV v e k) (flE e k) = f at hF hN ⊢
  refine enter Tryz.func35 Tryz.ntmps35 rfl (by kernel_rfl) zCon rfl fun G => ?_
  refine c_isList (v := u) zMem fun hs1 => ?_
  all_goals (((try refine zR2 ?_) <;> (repeat' (with_reducible first | refine And.intro ?_ ?_ | intro _))) <;> (repeat' ((first | ((with_reducible apply l_callP); exact rfl; exact zEvs; exact rfl; (with_reducible apply hC); (case hF => exact zFsub); (try any_goals (refine propId ?_; omega)))) <;> ((try refine zR2 ?_) <;> (repeat' (with_reducible first | refine And.intro ?_ ?_ | intro _))))))
  all_goals (first | (exfalso; omega) | skip)
  refine l_call rfl zEvs rfl hF zTake zFsub ?_
  rintro _ L' F' ⟨u2, rfl, rfl, rfl⟩
  refine l_isList (.head _) fun hsu2 => ?_
  all_goals ((try refine zR2 ?_) <;> (repeat' (with_reducible first | refine And.intro ?_ ?_ | intro _)))
  refine l_call rfl zEvs rfl (l03Fit_spec w f u2 hN) zTake zFsub ?_
  rintro _ L' F' ⟨u3, rfl, rfl, rfl⟩
  refine l_isList (.head _) fun hsu3 => ?_
  generalize fit w f = d
  all_goals ((try refine zR2 ?_) <;> (repeat' (with_reducible first | refine And.intro ?_ ?_ | intro _)))
  exact e_resT rfl zRes .nil (fsub_cons zMem fsub_nil) ⟨u3, rfl, rfl, rfl⟩
theorem ClS_spec (v e k : Int) (u : Value) (hD : IsD (sgn v) e (limbs v.natAbs)) (hk : -1000 ≤ k ∧ k ≤ 1000) : Spec Tryz.prog 37 [vDyadic (sgn v) u e, .int .i64 k] [] [fList 1 (rInt .i64) u (limbs v.natAbs)] (PRs (dr (-(shl (-v) (e + k))) (-k))) := by
  have hC := l03Range_spec (sgn v) e k u (limbs v.natAbs)
  rw [dcode_zero hD hk] at hC
  obtain ⟨_, hb, he⟩ := isD_nrm hD
  have hF := l03Ceil_spec u v e k hb he (by omega)
  clear hb
  rw [← dr_ceil]
  have hN := nv_nrm (-(flV (-v) e k)) (flE e k)
  rw [(nv_neg _).1, (nv_neg _).2] at hN
  generalize -(nv (flV (-v) e k)) = w at hF hN ⊢
  generalize ne (flV (-v) e k) (flE e k) = f at hF hN ⊢
  refine enter Tryz.func37 Tryz.ntmps37 rfl (by kernel_rfl) zCon rfl fun G => ?_
  refine c_isList (v := u) zMem fun hs1 => ?_
  all_goals (((try refine zR2 ?_) <;> (repeat' (with_reducible first | refine And.intro ?_ ?_ | intro _))) <;> (repeat' ((first | ((with_reducible apply l_callP); exact rfl; exact zEvs; exact rfl; (with_reducible apply hC); (case hF => exact zFsub); (try any_goals (refine propId ?_; omega)))) <;> ((try refine zR2 ?_) <;> (repeat' (with_reducible first | refine And.intro ?_ ?_ | intro _))))))
  all_goals (first | (exfalso; omega) | skip)
  refine l_call rfl zEvs rfl hF zTake zFsub ?_
  rintro _ L' F' ⟨u2, rfl, rfl, rfl⟩
  refine l_isList (.head _) fun hsu2 => ?_
  all_goals ((try refine zR2 ?_) <;> (repeat' (with_reducible first | refine And.intro ?_ ?_ | intro _)))
  refine l_call rfl zEvs rfl (l03Fit_spec w f u2 hN) zTake zFsub ?_
  rintro _ L' F' ⟨u3, rfl, rfl, rfl⟩
  refine l_isList (.head _) fun hsu3 => ?_
  generalize fit w f = d
  all_goals ((try refine zR2 ?_) <;> (repeat' (with_reducible first | refine And.intro ?_ ?_ | intro _)))
  exact e_resT rfl zRes .nil (fsub_cons zMem fsub_nil) ⟨u3, rfl, rfl, rfl⟩
end Go.Proofs.YtbllgmcpebifhaaGreatDoor.K
end

section
/- The law in plain terms: sums and differences, order, floors and ceilings. -/
namespace Go.Proofs.YtbllgmcpebifhaaGreatDoor.K
open Go.Lib
set_option linter.all false
set_option exponentiation.threshold 40000
theorem fit_ok {v e : Int} (hv : v.natAbs < 2 ^ 4800) (he : -5000 ≤ e ∧ e ≤ 5000) : fit v e = ((v, e), 0) := by unfold fit; rw [if_pos ⟨hv, he⟩]
/-- What is handed back without a code is an exact number. -/
theorem dr_ok {X p : Int} (h : (dr X p).2 = 0) : dr X p = ((nv X, ne X p), 0) ∧ IsD (sgn (nv X)) (ne X p) (limbs (nv X).natAbs) := by
  unfold dr at h ⊢
  by_cases hc : (nv X).natAbs < 2 ^ 4800 ∧ -5000 ≤ ne X p ∧ ne X p ≤ 5000
  · rw [if_pos hc]
    exact ⟨rfl, nrm_isD (nv_nrm X p) hc.1 hc.2⟩
  · rw [if_neg hc] at h; cases h
/-- A sum's difference is what it was. -/
theorem sum_back {v1 e1 v2 e2 : Int} (h1 : Nrm v1 e1) (hb : v1.natAbs < 2 ^ 4800) (he : -5000 ≤ e1 ∧ e1 ≤ 5000) {w f : Int} (hw : w = nv (sumV v1 e1 v2 e2)) (hf : f = ne (sumV v1 e1 v2 e2) (min e1 e2)) :
    dr (sumV w f (-v2) e2) (min f e2) = ((v1, e1), 0) := by
  have hS := sum_both v1 e1 v2 e2
  rw [← hw, ← hf] at hS
  have hT := sum_both w f (-v2) e2
  rw [dr_fit]
  generalize nv (sumV w f (-v2) e2) = x at hT ⊢
  generalize ne (sumV w f (-v2) e2) (min f e2) = g at hT ⊢
  obtain ⟨K, k1, k2, k3, k4⟩ : ∃ K : Int, 0 ≤ e1 + K ∧ 0 ≤ e2 + K ∧ 0 ≤ f + K ∧ 0 ≤ g + K := ⟨(e1.natAbs : Int) + e2.natAbs + f.natAbs + g.natAbs, by omega, by omega, by omega, by omega⟩
  have a1 := hS.2 K k1 k2 k3
  have a2 := hT.2 K k3 k2 k4
  have a3 : vat (-v2) e2 K = -(vat v2 e2 K) := by unfold vat; rw [Int.neg_mul]
  obtain ⟨rfl, rfl⟩ := vat_inj hT.1 h1 k4 k1 (by rw [a2, a3, a1]; omega)
  exact fit_ok hb he
/-- The order at a scale. -/
theorem sgn_vat (v1 e1 v2 e2 K : Int) (h1 : 0 ≤ e1 + K) (h2 : 0 ≤ e2 + K) : sgn (sumV v1 e1 (-v2) e2) = sgn (vat v1 e1 K - vat v2 e2 K) := by
  have e : vat v1 e1 K - vat v2 e2 K = sumV v1 e1 (-v2) e2 * ((2 ^ (min e1 e2 + K).toNat : Nat) : Int) := by
    unfold vat sumV
    rw [Int.add_mul, ← pw_add, ← pw_add, Int.neg_mul, show (e1 - min e1 e2).toNat + (min e1 e2 + K).toNat = (e1 + K).toNat by omega, show (e2 - min e1 e2).toNat + (min e1 e2 + K).toNat = (e2 + K).toNat by omega]
    omega
  have hp := pw_pos (min e1 e2 + K).toNat
  rw [e]
  generalize ((2 ^ (min e1 e2 + K).toNat : Nat) : Int) = P at hp
  generalize sumV v1 e1 (-v2) e2 = s
  unfold sgn
  by_cases h0 : s = 0
  · rw [if_pos h0, h0, Int.zero_mul, if_pos rfl]
  · have h3 : ¬ s * P = 0 := fun h => by
      rcases Int.mul_eq_zero.1 h with h | h
      · exact h0 h
      · omega
    rw [if_neg h0, if_neg h3]
    by_cases h4 : s < 0
    · rw [if_pos h4, if_pos (Int.mul_neg_of_neg_of_pos h4 hp)]
    · rw [if_neg h4, if_neg (Int.not_lt.2 (Int.mul_nonneg (by omega) (by omega)))]
theorem sgn_pos {x : Int} : (sgn x < 0 ↔ x < 0) ∧ (0 < sgn x ↔ 0 < x) ∧ (sgn x = 0 ↔ x = 0) := by
  unfold sgn
  by_cases h0 : x = 0
  · rw [if_pos h0]; omega
  · rw [if_neg h0]
    by_cases h1 : x < 0
    · rw [if_pos h1]; omega
    · rw [if_neg h1]; omega
/-- Rounding keeps the order. -/
theorem order_fl {v1 e1 v2 e2 A B : Int} (he1 : -5000 ≤ e1 ∧ e1 ≤ 5000) (he2 : -5000 ≤ e2 ∧ e2 ≤ 5000)
    (hA : srd (v1 * (2 ^ (e1 + 5000).toNat : Nat)) = A * (2 ^ 3926 : Nat)) (hB : srd (v2 * (2 ^ (e2 + 5000).toNat : Nat)) = B * (2 ^ 3926 : Nat)) {o : Int} (ho : o = sgn (sumV v1 e1 (-v2) e2)) :
    (o < 0 → ¬ B < A) ∧ (0 < o → ¬ A < B) ∧ (o = 0 → A = B) := by
  rw [sgn_vat v1 e1 v2 e2 5000 (by omega) (by omega)] at ho
  obtain ⟨s1, s2, s3⟩ := sgn_pos (x := vat v1 e1 5000 - vat v2 e2 5000)
  rw [← ho] at s1 s2 s3
  have l1 : vat v1 e1 5000 ≤ vat v2 e2 5000 → A ≤ B := fun h => PFoF_le hA hB h
  have l2 : vat v2 e2 5000 ≤ vat v1 e1 5000 → B ≤ A := fun h => PFoF_le hB hA h
  refine ⟨fun h => ?_, fun h => ?_, fun h => ?_⟩
  · have := l1 (by have := s1.1 h; omega); omega
  · have := l2 (by have := s2.1 h; omega); omega
  · have h0 := s3.1 h
    have := l1 (by omega)
    have := l2 (by omega)
    omega
theorem sum_zero {v1 e1 v2 e2 K : Int} (h1 : 0 ≤ e1 + K) (h2 : 0 ≤ e2 + K) (h : vat v1 e1 K = vat v2 e2 K) : sumV v1 e1 (-v2) e2 = 0 := by
  have := sgn_vat v1 e1 v2 e2 K h1 h2
  rw [h, Int.sub_self] at this
  exact sgn_zero.1 (this.trans rfl)
/-- Floors and ceilings are around the number, at most a step apart. -/
theorem around {v e k : Int} (hN : Nrm v e) (he : -5000 ≤ e ∧ e ≤ 5000) (hk : -1000 ≤ k ∧ k ≤ 1000) {fv fe cv ce : Int}
    (h1 : fv = nv (shl v (e + k))) (h2 : fe = ne (shl v (e + k)) (-k)) (h3 : cv = nv (-(shl (-v) (e + k)))) (h4 : ce = ne (-(shl (-v) (e + k))) (-k)) :
    sgn (sumV fv fe (-v) e) ≤ 0 ∧ 0 ≤ sgn (sumV cv ce (-v) e) ∧ (dr (sumV cv ce (-fv) fe) (min ce fe) = ((0, 0), 0) ∨ (dr (sumV cv ce (-fv) fe) (min ce fe) = ((1, -k), 0) ∧ ¬ sgn (sumV fv fe (-v) e) = 0 ∧ ¬ sgn (sumV cv ce (-v) e) = 0)) := by
  obtain ⟨K, k1, k2, k3, k4⟩ : ∃ K : Int, 0 ≤ e + K ∧ 0 ≤ -k + K ∧ 0 ≤ fe + K ∧ 0 ≤ ce + K := ⟨(e.natAbs : Int) + k.natAbs + fe.natAbs + ce.natAbs, by omega, by omega, by omega, by omega⟩
  have f1 : vat fv fe K = vat (shl v (e + k)) (-k) K := by rw [h1, h2]; exact vat_nv _ _ _ k2
  have c1 : vat cv ce K = vat (-(shl (-v) (e + k))) (-k) K := by rw [h3, h4]; exact vat_nv _ _ _ k2
  rw [sgn_vat _ _ _ _ K k3 k1, sgn_vat _ _ _ _ K k4 k1]
  -- both on the number
  have both : vat fv fe K = vat v e K → vat cv ce K = vat v e K → sgn (vat fv fe K - vat v e K) ≤ 0 ∧ 0 ≤ sgn (vat cv ce K - vat v e K) ∧ (dr (sumV cv ce (-fv) fe) (min ce fe) = ((0, 0), 0) ∨ (dr (sumV cv ce (-fv) fe) (min ce fe) = ((1, -k), 0) ∧ ¬ sgn (vat fv fe K - vat v e K) = 0 ∧ ¬ sgn (vat cv ce K - vat v e K) = 0)) := fun a b => by
    rw [a, b, Int.sub_self, sum_zero k4 k3 (b.trans a.symm)]
    refine ⟨by decide, by decide, .inl ?_⟩
    rw [dr_fit, nv_zero.2 rfl]
    have : ne 0 (min ce fe) = 0 := by unfold ne; rw [if_pos rfl]
    rw [this]
    exact fit_ok (by decide +kernel) (by omega)
  by_cases hek : 0 ≤ e + k
  · have s1 : shl v (e + k) = v * ((2 ^ (e + k).toNat : Nat) : Int) := by unfold shl; rw [if_pos hek, pw_cast]
    have s2 : shl (-v) (e + k) = -(v * ((2 ^ (e + k).toNat : Nat) : Int)) := by unfold shl; rw [if_pos hek, pw_cast, Int.neg_mul]
    have e1 : vat (v * ((2 ^ (e + k).toNat : Nat) : Int)) (-k) K = vat v e K := by
      unfold vat
      rw [← pw_add]
      congr 3
      omega
    refine both (by rw [f1, s1, e1]) (by rw [c1, s2, Int.neg_neg, e1])
  · obtain ⟨j, hj⟩ : ∃ j : Nat, j = (-(e + k)).toNat := ⟨_, rfl⟩
    have hp := pw_pos j
    have s1 : shl v (e + k) = v / ((2 ^ j : Nat) : Int) := by unfold shl; rw [if_neg hek, pw_cast, hj]
    have s2 : shl (-v) (e + k) = -v / ((2 ^ j : Nat) : Int) := by unfold shl; rw [if_neg hek, pw_cast, hj]
    have e1 : ∀ x : Int, vat x (-k) K = x * ((2 ^ j : Nat) : Int) * ((2 ^ (e + K).toNat : Nat) : Int) := fun x => by
      unfold vat
      rw [← pw_add]
      congr 3
      omega
    have hQ := pw_pos (e + K).toNat
    have e2 : vat v e K = v * ((2 ^ (e + K).toNat : Nat) : Int) := rfl
    rw [s1, e1] at f1
    rw [s2, e1] at c1
    rcases hN with ⟨rfl, rfl⟩ | hN
    · refine both ?_ ?_
      · rw [f1, e2]; simp
      · rw [c1, e2]; simp
    · -- never on the grid
      have hj1 : 1 ≤ j := by omega
      have hP2 : ((2 ^ j : Nat) : Int) % 2 = 0 := by
        have : 2 ^ j = 2 * 2 ^ (j - 1) := by
          conv => lhs; rw [show j = j - 1 + 1 by omega]
          rw [Nat.pow_succ, Nat.mul_comm]
        omega
      have hm1 := Int.emod_add_mul_ediv v ((2 ^ j : Nat) : Int)
      have hm2 := Int.emod_add_mul_ediv (-v) ((2 ^ j : Nat) : Int)
      have hr1 := Int.emod_nonneg v (Int.ne_of_gt hp)
      have hr2 := Int.emod_lt_of_pos v hp
      have hr3 := Int.emod_nonneg (-v) (Int.ne_of_gt hp)
      have hr4 := Int.emod_lt_of_pos (-v) hp
      have hne1 : ¬ v % ((2 ^ j : Nat) : Int) = 0 := fun h => by
        have : v % 2 = 0 := by
          have h2 : (2 : Int) ∣ v := Int.dvd_trans (Int.dvd_of_emod_eq_zero hP2) (Int.dvd_of_emod_eq_zero h)
          omega
        omega
      have hne2 : ¬ (-v) % ((2 ^ j : Nat) : Int) = 0 := fun h => by
        have h2 : (2 : Int) ∣ -v := Int.dvd_trans (Int.dvd_of_emod_eq_zero hP2) (Int.dvd_of_emod_eq_zero h)
        omega
      generalize hP : ((2 ^ j : Nat) : Int) = P at *
      generalize hQe : ((2 ^ (e + K).toNat : Nat) : Int) = Q at *
      have hFC : -(-v / P) = v / P + 1 := by
        have : P * (v / P + -v / P) = -(v % P + -v % P) := by rw [Int.mul_add]; omega
        have h5 : 0 < v % P + -v % P := by omega
        have h6 : v % P + -v % P < P * 2 := by omega
        have h7 : -2 < v / P + -v / P := by
          refine Int.not_le.1 fun h => ?_
          have := Int.mul_le_mul_of_nonneg_left h (Int.le_of_lt hp)
          omega
        have h8 : v / P + -v / P < 0 := by
          refine Int.not_le.1 fun h => ?_
          have := Int.mul_nonneg (Int.le_of_lt hp) h
          omega
        omega
      rw [hFC] at c1
      have hlow : v / P * P < v := by rw [Int.mul_comm]; omega
      have hhigh : v < (v / P + 1) * P := by rw [Int.add_mul, Int.mul_comm]; omega
      have o1 : vat fv fe K < vat v e K := by rw [f1, e2]; exact Int.mul_lt_mul_of_pos_right hlow hQ
      have o2 : vat v e K < vat cv ce K := by rw [c1, e2]; exact Int.mul_lt_mul_of_pos_right hhigh hQ
      obtain ⟨a1, _, a3⟩ := sgn_pos (x := vat fv fe K - vat v e K)
      obtain ⟨_, b2, b3⟩ := sgn_pos (x := vat cv ce K - vat v e K)
      have g1 : sgn (vat fv fe K - vat v e K) < 0 := a1.2 (by omega)
      have g2 : 0 < sgn (vat cv ce K - vat v e K) := b2.2 (by omega)
      refine ⟨by omega, by omega, .inr ⟨?_, by omega, by omega⟩⟩
      have hT := sum_both cv ce (-fv) fe
      rw [dr_fit]
      generalize nv (sumV cv ce (-fv) fe) = x at hT ⊢
      generalize ne (sumV cv ce (-fv) fe) (min ce fe) = g at hT ⊢
      obtain ⟨M, m1⟩ : ∃ M : Nat, 0 ≤ g + (K + M) := ⟨g.natAbs + K.natAbs, by omega⟩
      have up : ∀ y h : Int, 0 ≤ h + K → vat y h (K + M) = vat y h K * ((2 ^ M : Nat) : Int) := fun y h hh => by
        unfold vat
        rw [← pw_add]
        congr 3
        omega
      have t1 := hT.2 (K + M) (by omega) (by omega) m1
      have t2 : vat (-fv) fe (K + M) = -(vat fv fe (K + M)) := by unfold vat; rw [Int.neg_mul]
      rw [t2, up _ _ k4, up _ _ k3, f1, c1, Int.add_mul, Int.add_mul, Int.add_mul] at t1
      have t3 : vat 1 (-k) (K + M) = 1 * P * Q * ((2 ^ M : Nat) : Int) := by
        rw [up _ _ k2, e1]
      obtain ⟨rfl, rfl⟩ := vat_inj hT.1 (w := 1) (f := -k) (.inr (by decide)) m1 (by omega) (by rw [t1, t3]; omega)
      exact fit_ok (Nat.lt_of_lt_of_le (show (1 : Int).natAbs < 2 ^ 1 by decide) (Nat.pow_le_pow_right (by omega) (by omega))) (by omega)
end Go.Proofs.YtbllgmcpebifhaaGreatDoor.K
end
