/- A whole number that the reference takes has at most 200 limbs. -/
import Derived.Test.YtbllgmcpebifhaaGreatDoorZHa
import Derived.Test.YtbllgmcpebifhaaGreatDoorZMa
import Derived.Test.YtbllgmcpebifhaaGreatDoorZJl

section
namespace Go.Proofs.YtbllgmcpebifhaaGreatDoor.K
open Go Go.RowKit Go.Lib
set_option linter.all false
set_option exponentiation.threshold 6000

theorem isW_big {sg : Int} {n : Nat} (h : IsW sg (limbs n)) : n < 2 ^ 4800 := by
  rcases Nat.lt_or_ge n (2 ^ 4800) with h2 | h2
  · exact h2
  · have h3 := limbs_len_gt 200 n (by rw [show (16777216 : Nat) = 2 ^ 24 by decide, ← Nat.pow_mul]; exact h2)
    have h4 := h.len
    omega
end Go.Proofs.YtbllgmcpebifhaaGreatDoor.K
end

section
/- The reference's rounding to a float. -/
namespace Go.Proofs.YtbllgmcpebifhaaGreatDoor.K
open Go Go.RowKit Go.Lib
set_option linter.all false
set_option maxRecDepth 4000
set_option maxHeartbeats 1000000
set_option exponentiation.threshold 6000

theorem isD_nrm {v e : Int} (h : IsD (sgn v) e (limbs v.natAbs)) : Nrm v e ∧ v.natAbs < 2 ^ 4800 ∧ -5000 ≤ e ∧ e ≤ 5000 := by
  obtain ⟨h1, h2, h3⟩ := h
  refine ⟨?_, isW_big h1, h2.1, h2.2⟩
  by_cases h0 : v = 0
  · subst h0
    rw [if_pos (show sgn 0 = 0 from rfl)] at h3
    exact .inl ⟨rfl, h3⟩
  · rw [if_neg (fun h => h0 (sgn_zero.1 h)), limbs_pos (by omega)] at h3
    right
    have h3 : ((v.natAbs % 16777216 : Nat) : Int) % 2 = 1 := h3
    omega
theorem nrm_isD {v e : Int} (h : Nrm v e) (h1 : v.natAbs < 2 ^ 4800) (h2 : -5000 ≤ e ∧ e ≤ 5000) : IsD (sgn v) e (limbs v.natAbs) := by
  refine ⟨⟨fun x hx => ?_, ?_⟩, h2, ?_⟩
  · have := limbs_range v.natAbs x hx; omega
  · by_cases h0 : v = 0
    · subst h0; rw [if_pos (by simp [limbs_zero])]; rfl
    · have hne : limbs v.natAbs ≠ [] := fun h => by have := limbs_nil.1 h; omega
      rw [if_neg hne]
      have ht := limbs_trim v.natAbs
      refine ⟨limbs_two 200 h1, ?_, by unfold sgn; rw [if_neg h0]; split <;> simp⟩
      rcases ht with ht | ⟨hl, ht⟩
      · exact absurd ht hne
      · rw [List.getD_eq_getElem?_getD, List.getElem?_eq_getElem hl]; exact ht
  · rcases h with ⟨rfl, rfl⟩ | h
    · rfl
    · have h0 : v ≠ 0 := by omega
      rw [if_neg (fun h => h0 (sgn_zero.1 h)), limbs_pos (by omega)]
      show ((v.natAbs % 16777216 : Nat) : Int) % 2 = 1
      omega

/-- A float with its finiteness. -/
def PR64 (v e : Int) (r : Value) (L' : List Own) (F' : List Fact) : Prop := ∃ y b, r = .tuple #[.float .f64 y, .bool b] ∧ y < 18446744073709551616 ∧
  ((b = true ∧ ∃ A, fv y = some A ∧ (∀ a, VEq a v e → FRep a.natAbs → A = a) ∧ (v = 0 → y = 0)) ∨ (b = false ∧ ∀ a, VEq a v e → ¬ FRep a.natAbs)) ∧ L' = [] ∧ F' = []
theorem l03Round0_spec (u : Value) : Spec Tryz.prog 264 [vDyadic (sgn 0) u 0, .int .i64 53, .int .i64 (-1074)] [] [fList 1 (rInt .i64) u (limbs (0 : Int).natAbs)] (Gives (.float .f64 0)) := by
  rw [show sgn 0 = 0 from rfl]
  refine enter Tryz.func264 Tryz.ntmps264 rfl (by kernel_rfl) zCon rfl fun G => ?_
  refine c_isList (v := u) zMem fun hsu => ?_
  all_goals ((try refine zR2 ?_) <;> (repeat' (with_reducible first | refine And.intro ?_ ?_ | intro _)))
  all_goals (first | (exfalso; omega) | skip)
  (refine e_gives rfl zRes ?_; first | rfl | (simp [retVal, *]; done) | (simp_all [retVal]; done) | (simp only [retVal]))
theorem l03Round64_spec (u : Value) (v e : Int) (hD : IsD (sgn v) e (limbs v.natAbs)) :
    Spec Tryz.prog 217 [vDyadic (sgn v) u e] [] [fList 1 (rInt .i64) u (limbs v.natAbs)] (PR64 v e) := by
  obtain ⟨hn, hl, he⟩ := isD_nrm hD
  refine enter Tryz.func217 Tryz.ntmps217 rfl (by kernel_rfl) zCon rfl fun G => ?_
  refine c_isList (v := u) zMem fun hsu => ?_
  rcases hn with ⟨rfl, rfl⟩ | hv
  · all_goals ((try refine zR2 ?_) <;> (repeat' (with_reducible first | refine And.intro ?_ ?_ | intro _)))
    refine l_callP rfl zEvs rfl (l03Round0_spec u) zFsub ?_
    all_goals ((try refine zR2 ?_) <;> (repeat' (with_reducible first | refine And.intro ?_ ?_ | intro _)))
    refine l_callP rfl zEvs rfl (l01Real_fin 0 0 fv_zero) zFsub ?_
    all_goals ((try refine zR2 ?_) <;> (repeat' (with_reducible first | refine And.intro ?_ ?_ | intro _)))
    exact e_resT rfl zRes .nil fsub_nil ⟨0, true, rfl, by omega, .inl ⟨rfl, 0, fv_zero, fun a h _ => h.zero.symm, fun _ => rfl⟩, rfl, rfl⟩
  · all_goals ((try refine zR2 ?_) <;> (repeat' (with_reducible first | refine And.intro ?_ ?_ | intro _)))
    refine l_call rfl zEvs rfl (l03Round_spec u v e hv hl he) zTake zFsub ?_
    rintro _ L' F' ⟨y, A, rfl, ⟨hy64, hy1, hy2⟩, hex, hz, rfl, rfl⟩
    all_goals ((try refine zR2 ?_) <;> (repeat' (with_reducible first | refine And.intro ?_ ?_ | intro _)))
    by_cases hR : FRep A.natAbs
    · refine l_callP rfl zEvs rfl (l01Real_fin y A (hy1 hR)) zFsub ?_
      all_goals ((try refine zR2 ?_) <;> (repeat' (with_reducible first | refine And.intro ?_ ?_ | intro _)))
      exact e_resT rfl zRes .nil fsub_nil ⟨y, true, rfl, hy64, .inl ⟨rfl, A, hy1 hR, hex, hz⟩, rfl, rfl⟩
    · refine l_callP rfl zEvs rfl (l01Real_inf y (hy2 hR)) zFsub ?_
      all_goals ((try refine zR2 ?_) <;> (repeat' (with_reducible first | refine And.intro ?_ ?_ | intro _)))
      exact e_resT rfl zRes .nil fsub_nil ⟨y, false, rfl, hy64, .inr ⟨rfl, fun a h1 h2 => hR (by rw [hex a h1 h2]; exact h2)⟩, rfl, rfl⟩

end Go.Proofs.YtbllgmcpebifhaaGreatDoor.K
end
