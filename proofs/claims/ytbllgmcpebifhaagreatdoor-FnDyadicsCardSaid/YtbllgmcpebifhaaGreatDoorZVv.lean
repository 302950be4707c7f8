/- The law's comparisons of exact numbers. -/
import Derived.Test.YtbllgmcpebifhaaGreatDoorZVs
import Derived.Test.YtbllgmcpebifhaaGreatDoorZVn
import Derived.Test.YtbllgmcpebifhaaGreatDoorZVj
import Derived.Test.YtbllgmcpebifhaaGreatDoorZHf
namespace Go.Proofs.YtbllgmcpebifhaaGreatDoor.K
open Go Go.RowKit Go.Lib
set_option linter.all false
set_option maxRecDepth 4000
set_option maxHeartbeats 1000000
set_option exponentiation.threshold 40000
theorem likeI_spec (va vb : Value) (a : List Int) : Spec Tryz.prog 38 [va, vb] [] [fList 1 (rInt .i64) va a, fList 1 (rInt .i64) vb a] (Gives (.bool true)) := by
  refine enter Tryz.func38 Tryz.ntmps38 rfl (by kernel_rfl) zCon rfl fun G => ?_
  refine c_isList (v := va) zMem fun hsa => ?_
  refine c_isList (v := vb) zMem fun hsb => ?_
  all_goals ((try refine zR2 ?_) <;> (repeat' (with_reducible first | refine And.intro ?_ ?_ | intro _)))
  all_goals (first | (exfalso; omega) | skip)
  refine c_while (ι := {i : Nat // i ≤ a.length}) (κ := Unit) (fun i => [(5, .int .i64 (i.1 : Int)), (0, va), (1, vb)]) (fun _ => []) (fun _ => [fList 1 (rInt .i64) va a, fList 1 (rInt .i64) vb a]) (fun i => a.length - i.1)
    (fun _ => []) (fun _ => []) (fun _ => []) ⟨0, Nat.zero_le _⟩ (fun _ _ s => s.start zSub zRfl zFsub) ?_ ?_
  · rintro ⟨i, hi⟩
    dsimp only at hi ⊢
    by_cases hlt : i < a.length
    · obtain ⟨x, hx⟩ : ∃ x, a[i]? = some x := ⟨_, List.getElem?_eq_getElem hlt⟩
      all_goals ((try refine zR2 ?_) <;> (repeat' (with_reducible first | refine And.intro ?_ ?_ | intro _)))
      all_goals (first | (exfalso; omega) | skip)
      refine c_draw ([8], []) [] [0, 1, 2, 3, 4, 5, 6, 7, 8] (by kernel_rfl) (by kernel_rfl) ?_
      all_goals ((try refine zD2 ?_) <;> (repeat' (with_reducible first | refine And.intro ?_ ?_ | intro _)))
      all_goals (first | (exfalso; omega) | skip)
      exact e_again ⟨i + 1, by omega⟩ (by dsimp only; omega) zSub rfl zFsub
    · all_goals ((try refine zR2 ?_) <;> (repeat' (with_reducible first | refine And.intro ?_ ?_ | intro _)))
      all_goals (first | (exfalso; omega) | skip)
      exact e_out () zSub rfl (fun _ h => by cases h)
  · intro _
    all_goals ((try refine zR2 ?_) <;> (repeat' (with_reducible first | refine And.intro ?_ ?_ | intro _)))
    (refine e_gives rfl zRes ?_; first | rfl | (simp [retVal, *]; done) | (simp_all [retVal]; done) | (simp only [retVal]))
theorem whole5_spec (va vb : Value) (a : List Int) (sg : Int) : Spec Tryz.prog 100 [vWhole sg va, vWhole sg vb] [] [fList 1 (rInt .i64) va a, fList 1 (rInt .i64) vb a] (Gives (.bool true)) := by
  refine enter Tryz.func100 Tryz.ntmps100 rfl (by kernel_rfl) zCon rfl fun G => ?_
  refine c_isList (v := va) zMem fun hs1 => ?_
  refine c_isList (v := vb) zMem fun hs2 => ?_
  all_goals (((try refine zR2 ?_) <;> (repeat' (with_reducible first | refine And.intro ?_ ?_ | intro _))) <;> (repeat' ((first | ((with_reducible apply l_callP); exact rfl; exact zEvs; exact rfl; (with_reducible apply likeI_spec); (case hF => exact zFsub); (try any_goals (refine propId ?_; omega)))) <;> ((try refine zR2 ?_) <;> (repeat' (with_reducible first | refine And.intro ?_ ?_ | intro _))))))
  all_goals first | (exfalso; contradiction) | (refine e_gives rfl zRes ?_; first | rfl | (simp [retVal, *]; done) | (simp_all [retVal]; done) | (simp only [retVal]))
theorem dyadic5_spec (va vb : Value) (a : List Int) (sg e : Int) : Spec Tryz.prog 28 [vDyadic sg va e, vDyadic sg vb e] [] [fList 1 (rInt .i64) va a, fList 1 (rInt .i64) vb a] (Gives (.bool true)) := by
  refine enter Tryz.func28 Tryz.ntmps28 rfl (by kernel_rfl) zCon rfl fun G => ?_
  refine c_isList (v := va) zMem fun hs1 => ?_
  refine c_isList (v := vb) zMem fun hs2 => ?_
  all_goals (((try refine zR2 ?_) <;> (repeat' (with_reducible first | refine And.intro ?_ ?_ | intro _))) <;> (repeat' ((first | ((with_reducible apply l_callP); exact rfl; exact zEvs; exact rfl; (with_reducible apply whole5_spec); (case hF => exact zFsub); (try any_goals (refine propId ?_; omega)))) <;> ((try refine zR2 ?_) <;> (repeat' (with_reducible first | refine And.intro ?_ ?_ | intro _))))))
  all_goals first | (exfalso; contradiction) | (refine e_gives rfl zRes ?_; first | rfl | (simp [retVal, *]; done) | (simp_all [retVal]; done) | (simp only [retVal]))
theorem specIs_spec (sg e : Int) (v : Value) (l : List Int) : Spec Tryz.prog 30 [vDyadic sg v e] [] [fList 1 (rInt .i64) v l] (Gives (.bool (decide (IsD sg e l)))) := by
  have hI := l03Is_spec sg e v l
  generalize decide (IsD sg e l) = b at hI ⊢
  refine enter Tryz.func30 Tryz.ntmps30 rfl (by kernel_rfl) zCon rfl fun G => ?_
  refine c_isList (v := v) zMem fun hs1 => ?_
  all_goals (((try refine zR2 ?_) <;> (repeat' (with_reducible first | refine And.intro ?_ ?_ | intro _))) <;> (repeat' ((first | ((with_reducible apply l_callP); exact rfl; exact zEvs; exact rfl; (with_reducible apply hI); (case hF => exact zFsub); (try any_goals (refine propId ?_; omega)))) <;> ((try refine zR2 ?_) <;> (repeat' (with_reducible first | refine And.intro ?_ ?_ | intro _))))))
  (refine e_gives rfl zRes ?_; first | rfl | (simp [retVal, *]; done) | (simp_all [retVal]; done) | (simp only [retVal]))
theorem PDy.same {t : List UInt8} {v e w f : Int} (h : PDy t v e) (h' : PDy t w f) : v = w ∧ e = f := by
  obtain ⟨h1, h2⟩ := split_uniq (h.1.symm.trans h'.1) (itoa_no_p v) (itoa_no_p w)
  exact ⟨itoa_inj h1, itoa_inj h2⟩
theorem dr_no {X p : Int} (h : ¬ (dr X p).2 = 0) : dr X p = ((0, 0), 3) := by
  unfold dr at h ⊢
  by_cases hc : (nv X).natAbs < 2 ^ 4800 ∧ -5000 ≤ ne X p ∧ ne X p ≤ 5000
  · rw [if_pos hc] at h; exact absurd rfl h
  · rw [if_neg hc]
end Go.Proofs.YtbllgmcpebifhaaGreatDoor.K
