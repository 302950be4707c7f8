/- A whole number that the reference takes has at most 200 limbs. -/
import Derived.Test.YtbllgmcpebifhaaGreatDoorZHa
import Derived.Test.YtbllgmcpebifhaaGreatDoorZMa
import Derived.Test.YtbllgmcpebifhaaGreatDoorZJl

section
namespace Go.Proofs.YtbllgmcpebifhaaGreatDoor.K
open Go Go.RowKit Go.Lib
set_option linter.all false
set_option exponentiation.threshold 6000

theorem isW_big {sg : Int} {n : Nat} (h : IsW sg (limbs n)) : n < 2 ^ 4800 := by
  rcases Nat.lt_or_ge n (2 ^ 4800) with h2 | h2
  · exact h2
  · have h3 := limbs_len_gt 200 n (by rw [show (16777216 : Nat) = 2 ^ 24 by decide, ← Nat.pow_mul]; exact h2)
    have h4 := h.len
    omega
end Go.Proofs.YtbllgmcpebifhaaGreatDoor.K
end

section
/- The reference's rounding to a float. -/
namespace Go.Proofs.YtbllgmcpebifhaaGreatDoor.K
open Go Go.RowKit Go.Lib
set_option linter.all false
set_option maxRecDepth 4000
set_option maxHeartbeats 1000000
set_option exponentiation.threshold 6000

theorem isD_nrm {v e : Int} (h : IsD (sgn v) e (limbs v.natAbs)) : Nrm v e ∧ v.natAbs < 2 ^ 4800 ∧ -5000 ≤ e ∧ e ≤ 5000 := by
  obtain ⟨h1, h2, h3⟩ := h
  refine ⟨?_, isW_big h1, h2.1, h2.2⟩
  by_cases h0 : v = 0
  · subst h0
    rw [if_pos (show sgn 0 = 0 from rfl)] at h3
    exact .inl ⟨rfl, h3⟩
  · rw [if_neg (fun h => h0 (sgn_zero.1 h)), limbs_pos (by omega)] at h3
    right
    have h3 : ((v.natAbs % 16777216 : Nat) : Int) % 2 = 1 := h3
    omega
theorem nrm_isD {v e : Int} (h : Nrm v e) (h1 : v.natAbs < 2 ^ 4800) (h2 : -5000 ≤ e ∧ e ≤ 5000) : IsD (sgn v) e (limbs v.natAbs) := by
  refine ⟨⟨fun x hx => ?_, ?_⟩, h2, ?_⟩
  · have := limbs_range v.natAbs x hx; omega
  · by_cases h0 : v = 0
    · subst h0; rw [if_pos (by simp [limbs_zero])]; rfl
    · have hne : limbs v.natAbs ≠ [] := fun h => by have := limbs_nil.1 h; omega
      rw [if_neg hne]
      have ht := limbs_trim v.natAbs
      refine ⟨limbs_two 200 h1, ?_, by unfold sgn; rw [if_neg h0]; split <;> simp⟩
      rcases ht with ht | ⟨hl, ht⟩
      · exact absurd ht hne
      · rw [List.getD_eq_getElem?_getD, List.getElem?_eq_getElem hl]; exact ht
  · rcases h with ⟨rfl, rfl⟩ | h
    · rfl
    · have h0 : v ≠ 0 := by omega
      rw [if_neg (fun h => h0 (sgn_zero.1 h)), limbs_pos (by omega)]
      show ((v.natAbs % 16777216 : Nat) : Int) % 2 = 1
      omega

end Go.Proofs.YtbllgmcpebifhaaGreatDoor.K
end
