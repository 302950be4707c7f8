/- The program's rounding: exact where it can be. -/
import Derived.Test.YtbllgmcpebifhaaGreatDoorZNe
import Derived.Test.YtbllgmcpebifhaaGreatDoorZLy

section
namespace Go.Proofs.YtbllgmcpebifhaaGreatDoor.K
open Go Go.RowKit
set_option linter.all false
set_option maxRecDepth 4000
set_option maxHeartbeats 1000000
set_option exponentiation.threshold 40000

theorem ofInt_small (M : Nat) (h : M ≤ 2 ^ 53) : fv (floatOfInt .f64 (M : Int)) = some ((M : Int) * (2 ^ 1074 : Nat)) := by
  have h1 := Ieee.Format.write
  show fv (Ieee.double.write (.number (decide ((M : Int) < 0)) (M : Int).natAbs 0)) = _
  rw [Int.natAbs_natCast, decide_eq_false (by omega), write_num false M 0 (M * 2 ^ 1074) 1074 0 (by rw [Nat.pow_zero, Nat.mul_one]) (by omega) (frep_small h)]
  simp
theorem ofInt_lt (z : Int) : floatOfInt .f64 z < 18446744073709551616 := Ieee.Format.write_lt Ieee.double (.number (z < 0) z.natAbs 0)

/-- A rounded float is handed back; R stays. -/
def PRdd (v p : Int) (R : List Own) (r : Value) (L' : List Own) (F' : List Fact) : Prop := ∃ y b, r = .tuple #[.float .f64 y, .bool b] ∧ y < 18446744073709551616 ∧
  ((b = true ∧ ∃ A, fv y = some A ∧ (∀ a, VEq a v p → FRep a.natAbs → A = a) ∧ (v = 0 → y = 0)) ∨ (b = false ∧ ∀ a, VEq a v p → ¬ FRep a.natAbs)) ∧ L' = R ∧ F' = []
theorem rounded0_spec (x : Nat) (mx : Value) (R : List Own) (hx : oInt x 0 mx ∈ R) :
    Spec Tryz.prog 177 [vNum x 0, .int .i64 53, .int .i64 (-1074), .int .i64 1024] R [fDig mx (0 : Int).natAbs, fTz] (PRdd 0 0 R) := by
  refine enter Tryz.func177 Tryz.ntmps177 rfl (by kernel_rfl) zCon rfl fun G => ?_
  all_goals ((try refine zR2 ?_) <;> (repeat' (with_reducible first | refine And.intro ?_ ?_ | intro _)))
  refine l_callVA rfl zEvs rfl (Sign_spec x 0 mx _ (.tail _ hx)) zFsub ?_
  rw [show sgn 0 = 0 from rfl]
  all_goals ((try refine zR2 ?_) <;> (repeat' (with_reducible first | refine And.intro ?_ ?_ | intro _)))
  all_goals (first | (exfalso; omega) | skip)
  exact e_resT rfl zRes (Lo := R) zTake fsub_nil ⟨0, true, rfl, by omega, .inl ⟨rfl, 0, fv_zero, fun a h _ => h.zero.symm, fun _ => rfl⟩, rfl, rfl⟩

theorem shl_low {s : Nat} (p q : Int) (hs : ((blen s : Nat) : Int) + p - 53 ≤ q) : shl (s : Int) (p + (0 - q)) = ((shl (s : Int) (p + (0 - q))).toNat : Int) ∧ (shl (s : Int) (p + (0 - q))).toNat < 2 ^ 53 ∧ (q ≤ p → (shl (s : Int) (p + (0 - q))).toNat = s * 2 ^ (p - q).toNat) := by
  have hb : s < 2 ^ blen s := blen_le.1 (Nat.le_refl _)
  unfold shl
  by_cases h : 0 ≤ p + (0 - q)
  · rw [if_pos h]
    have e : (s : Int) * 2 ^ (p + (0 - q)).toNat = ((s * 2 ^ (p + (0 - q)).toNat : Nat) : Int) := by simp
    rw [e, Int.toNat_natCast]
    refine ⟨rfl, pw_lt hb _ (by omega), fun _ => ?_⟩
    congr 2; omega
  · rw [if_neg h]
    have e : (s : Int) / 2 ^ (-(p + (0 - q))).toNat = ((s / 2 ^ (-(p + (0 - q))).toNat : Nat) : Int) := by simp
    rw [e, Int.toNat_natCast]
    exact ⟨rfl, round_low hb _ (by omega), fun h' => by omega⟩
theorem rb_a {M : Nat} (h : M < 2 ^ 53) : M < 4294967296 ^ 990 := Nat.lt_trans h (by decide +kernel)
theorem rb_p {a k n : Nat} (h : k ≤ n) (ha : 2 ^ n ≤ a) : 2 ^ k ≤ a := Nat.le_trans (Nat.pow_le_pow_right (by omega) h) ha
theorem rb_b {s k : Nat} (h : s < 2 ^ 4800) (hk : k ≤ 6100) : ((s : Int) * 2 ^ k).natAbs < 4294967296 ^ 900 := by
  have e : ((s : Int) * 2 ^ k) = ((s * 2 ^ k : Nat) : Int) := by simp
  rw [e, Int.natAbs_natCast]
  exact Nat.lt_of_lt_of_le (pw_lt (a := 4800) (b := 4800 + k) h k (by omega)) (rb_p (n := 10900) (by omega) (by decide +kernel))
theorem rb_c {s k : Nat} (h : s < 2 ^ 53) (hk : k ≤ 16000) : ((s : Int) * 2 ^ k).natAbs < 4294967296 ^ 900 := by
  have e : ((s : Int) * 2 ^ k) = ((s * 2 ^ k : Nat) : Int) := by simp
  rw [e, Int.natAbs_natCast]
  exact Nat.lt_of_lt_of_le (pw_lt (a := 53) (b := 53 + k) h k (by omega)) (rb_p (n := 16053) (by omega) (by decide +kernel))
theorem rb_d {a b : Int} (h1 : a.natAbs < 4294967296 ^ 900) (h2 : b.natAbs < 4294967296 ^ 900) : (a - b).natAbs < 4294967296 ^ 990 := by
  have h3 : (a - b).natAbs ≤ a.natAbs + b.natAbs := by omega
  have h4 : 4294967296 ^ 900 + 4294967296 ^ 900 < 4294967296 ^ 990 := by decide +kernel
  generalize 4294967296 ^ 900 = T at *
  generalize 4294967296 ^ 990 = U at *
  omega
theorem rb_f {M : Nat} (h : M ≤ 2 ^ 53) : -9223372036854775808 ≤ (M : Int) ∧ (M : Int) ≤ 9223372036854775807 := by omega
theorem rb_g {M : Nat} {q : Int} (h : M ≤ 2 ^ 53) (hq : -1074 ≤ q) (hb : ¬ 1024 < (blen M : Int) + q) : FRep ((M : Int) * (2 ^ (q + 1074).toNat : Nat)).natAbs := by
  rw [natAbs_pw, Int.natAbs_natCast]
  exact frep_of M _ h (pw_lt (blen_le.1 (Nat.le_refl _)) _ (by omega))
end Go.Proofs.YtbllgmcpebifhaaGreatDoor.K
end

section
/- The program's value of an exact number. -/
namespace Go.Proofs.YtbllgmcpebifhaaGreatDoor.K
open Go Go.RowKit Go.Lib
set_option linter.all false
set_option maxRecDepth 4000
set_option maxHeartbeats 1000000
set_option exponentiation.threshold 40000

theorem dvalue_spec (u : Value) (v e : Int) (hD : IsD (sgn v) e (limbs v.natAbs)) :
    Spec Tryz.prog 97 [vDyadic (sgn v) u e] [] [fList 1 (rInt .i64) u (limbs v.natAbs)] (PNumR v e []) := by
  refine enter Tryz.func97 Tryz.ntmps97 rfl (by kernel_rfl) zCon rfl fun G => ?_
  refine c_isList (v := u) zMem fun hsu => ?_
  have hv : sv (decide (sgn v < 0)) (vl 16777216 (limbs v.natAbs)) = v := by
    rw [limbs_val]
    conv => rhs; rw [← sv_abs_eq v]
    congr 1
    by_cases h0 : v < 0
    · rw [show sgn v = -1 by unfold sgn; rw [if_neg (by omega), if_pos h0]]; simp [h0]
    · by_cases h1 : v = 0
      · subst h1; simp [sgn]
      · rw [show sgn v = 1 by unfold sgn; rw [if_neg (by omega), if_neg h0]]; simp [h0]
  all_goals ((try refine zR2 ?_) <;> (repeat' (with_reducible first | refine And.intro ?_ ?_ | intro _)))
  rename_i b1 b2
  refine c_draw ([6], []) [.box b1 [.int .i64 (sgn v), u, .int .i64 e] 48, .box b2 [.pointer none, .int .i64 0] 111] [0, 1, 3, 4, 2, 5, 6] (by kernel_rfl) (by kernel_rfl) ?_
  all_goals ((try refine zD2 ?_) <;> (repeat' (with_reducible first | refine And.intro ?_ ?_ | intro _)))
  refine l_call rfl zEvs rfl (value_spec (sgn v) u (limbs v.natAbs) hD.1) zTake zFsub ?_
  rintro _ L' F' ⟨b, mag, rfl, rfl, rfl⟩
  rw [hv]
  all_goals ((try refine zD2 ?_) <;> (repeat' (with_reducible first | refine And.intro ?_ ?_ | intro _)))
  exact e_resT rfl zRes (Lo := [oInt b v mag]) zTake (fsub_cons zMem fsub_nil) ⟨b, mag, rfl, rfl, rfl⟩
end Go.Proofs.YtbllgmcpebifhaaGreatDoor.K
end
