/- Large numbers: order, one bit; numbers with a power: one power, differences, order, rounding down. -/
import Derived.Test.YtbllgmcpebifhaaGreatDoorZNc
import Derived.Test.YtbllgmcpebifhaaGreatDoorZNa
import Derived.Test.YtbllgmcpebifhaaGreatDoorZJk

section
namespace Go.Proofs.YtbllgmcpebifhaaGreatDoor.K
open Go Go.RowKit
set_option linter.all false
set_option maxRecDepth 4000
set_option maxHeartbeats 1000000
set_option exponentiation.threshold 8000

/-- A number with a power. -/
abbrev vNum (x : Nat) (p : Int) : Value := .agg #[ptr x, .int .i64 p]
/-- A number with a power is handed back; R stays. -/
def PNumR (v p : Int) (R : List Own) (r : Value) (L' : List Own) (F' : List Fact) : Prop := ∃ a ma, r = vNum a p ∧ L' = oInt a v ma :: R ∧ F' = [fDig ma v.natAbs]
end Go.Proofs.YtbllgmcpebifhaaGreatDoor.K
end

section
/- The program's exact number of a float. -/
namespace Go.Proofs.YtbllgmcpebifhaaGreatDoor.K
open Go Go.RowKit
set_option linter.all false
set_option maxRecDepth 4000
set_option maxHeartbeats 1000000
set_option exponentiation.threshold 40000

/-- The value of a float is handed back. -/
def PVo (a : Int) (r : Value) (L' : List Own) (F' : List Fact) : Prop := ∃ v p, VEq a v p ∧ v.natAbs < 2 ^ 53 ∧ -3000 ≤ p ∧ p ≤ 3000 ∧ PNumR v p [] r L' F'
theorem valueOf_spec (x : Nat) (a : Int) (h64 : x < 18446744073709551616) (hx : fv x = some a) : Spec Tryz.prog 158 [.float .f64 x] [] [] (PVo a) := by
  refine enter Tryz.func158 Tryz.ntmps158 rfl (by kernel_rfl) zCon rfl fun G => ?_
  all_goals ((try refine zR2 ?_) <;> (repeat' (with_reducible first | refine And.intro ?_ ?_ | intro _)))
  refine l_call rfl zEvs rfl (Frexp_spec x a h64 hx) zTake zFsub ?_
  rintro _ L' F' ⟨f, k, rfl, hf64, hfr, rfl, rfl⟩
  obtain ⟨b, M, hfb, hM, hMb, hV, hk⟩ : ∃ b M : Int, fv f = some b ∧ b * (2 ^ 53 : Nat) = M * (2 ^ 1074 : Nat) ∧ M.natAbs < 9007199254740992 ∧ VEq a M (k - 53) ∧ -2000 ≤ k ∧ k ≤ 2000 := by
    rcases hfr with ⟨rfl, hf, rfl⟩ | ⟨s, fr, _, hfr, rfl, hV, hk1, hk2⟩
    · exact ⟨0, 0, hf, by simp, by decide, VEq.of_zero _, by omega, by omega⟩
    · have h1 := fv_mkW s 1022 fr (by omega) hfr
      refine ⟨_, Ieee.signed s (4503599627370496 + fr) 0, h1, ?_, ?_, hV, hk1, hk2⟩
      · rw [← signed_scale, ← signed_scale]
      · rw [signed_abs, Nat.pow_zero]; omega
  have e53 : (2 : Nat) ^ 53 = 9007199254740992 := by decide
  have hR : FRep (M * (2 ^ 1074 : Nat)).natAbs := by
    rw [natAbs_pw]
    exact ⟨M.natAbs, 1074, rfl, by rw [e53]; exact hMb, by omega⟩
  have hL := Ldexp_spec f b (M * (2 ^ 1074 : Nat)) 53 53 0 hf64 hfb (by rw [hM]; simp) (by decide) hR (by omega)
  clear hfr
  all_goals ((try refine zR2 ?_) <;> (repeat' (with_reducible first | refine And.intro ?_ ?_ | intro _)))
  refine l_call rfl zEvs rfl hL zTake zFsub ?_
  rintro _ L' F' ⟨g, rfl, hg64, hg, rfl, rfl⟩
  obtain ⟨z, hz1, hz2, _, hz4⟩ := cut_int hg (by rw [natAbs_pw]; exact Nat.mul_lt_mul_of_pos_right (by rw [e53]; exact hMb) (Nat.pow_pos (by omega)))
  have hzM : z = M := pw_cancel (hz4.1 (by rw [natAbs_pw]; exact Nat.mul_mod_left _ _))
  subst hzM
  clear hz4 hL hR hM hg
  all_goals ((try refine zR2 ?_) <;> (repeat' (with_reducible first | refine And.intro ?_ ?_ | intro _)))
  refine l_call rfl zEvs rfl (newBig_spec z (by omega)) zTake zFsub ?_
  rintro _ L' F' ⟨b1, mg, rfl, rfl, rfl⟩
  all_goals ((try refine zR2 ?_) <;> (repeat' (with_reducible first | refine And.intro ?_ ?_ | intro _)))
  exact e_resT rfl zRes (Lo := [oInt b1 z mg]) zTake (fsub_cons zMem fsub_nil) ⟨z, k - 53, hV, by rw [e53]; exact hMb, by omega, by omega, b1, mg, rfl, rfl, rfl⟩

end Go.Proofs.YtbllgmcpebifhaaGreatDoor.K
end
