/- The reference's floats: finite or not, opposite, doubled and halved. -/
import Derived.Test.YtbllgmcpebifhaaGreatDoorZJi
import Derived.Test.YtbllgmcpebifhaaGreatDoorZNa
namespace Go.Proofs.YtbllgmcpebifhaaGreatDoor.K
open Go Go.RowKit
set_option linter.all false
set_option maxRecDepth 4000
set_option maxHeartbeats 1000000
set_option exponentiation.threshold 3000

theorem l01Real_fin (x : Nat) (a : Int) (hx : fv x = some a) : Spec Tryz.prog 88 [.float .f64 x] [] [] (Gives (.bool true)) := by
  refine enter Tryz.func88 Tryz.ntmps88 rfl (by kernel_rfl) zCon rfl fun G => ?_
  obtain ⟨r, h1, h2⟩ := fin_sub hx
  have h1' : floatBits .sub .f64 x x = some r := h1
  all_goals ((try refine zR2 ?_) <;> (repeat' (with_reducible first | refine And.intro ?_ ?_ | intro _)))
  (refine e_gives rfl zRes ?_; first | rfl | (simp [retVal, *]; done) | (simp_all [retVal]; done) | (simp only [retVal]))
theorem l01Real_inf (x : Nat) (hx : isInf x) : Spec Tryz.prog 88 [.float .f64 x] [] [] (Gives (.bool false)) := by
  refine enter Tryz.func88 Tryz.ntmps88 rfl (by kernel_rfl) zCon rfl fun G => ?_
  all_goals ((try refine zR2 ?_) <;> (repeat' (with_reducible first | refine And.intro ?_ ?_ | intro _)))
  refine l_fnanSub rfl rfl rfl rfl (inf_sub hx) fun r hr => ?_
  refine l_feqlNan rfl rfl rfl rfl hr ?_
  all_goals ((try refine zR2 ?_) <;> (repeat' (with_reducible first | refine And.intro ?_ ?_ | intro _)))
  (refine e_gives rfl zRes ?_; first | rfl | (simp [retVal, *]; done) | (simp_all [retVal]; done) | (simp only [retVal]))
theorem isReal_fin (x : Nat) (a : Int) (hx : fv x = some a) : Spec Tryz.prog 83 [.float .f64 x] [] [] (Gives (.bool true)) := by
  refine enter Tryz.func83 Tryz.ntmps83 rfl (by kernel_rfl) zCon rfl fun G => ?_
  obtain ⟨r, h1, h2⟩ := fin_sub hx
  have h1' : floatBits .sub .f64 x x = some r := h1
  all_goals ((try refine zR2 ?_) <;> (repeat' (with_reducible first | refine And.intro ?_ ?_ | intro _)))
  (refine e_gives rfl zRes ?_; first | rfl | (simp [retVal, *]; done) | (simp_all [retVal]; done) | (simp only [retVal]))
theorem fv_mone : fv 13830554455654793216 = some (-((2 ^ 1074 : Nat) : Int)) := by decide +kernel
theorem l01Turned_fin (x : Nat) (a : Int) (hx : fv x = some a) : Spec Tryz.prog 296 [.float .f64 x] [] [] (PFl fun r => fv r = some (-a)) := by
  refine enter Tryz.func296 Tryz.ntmps296 rfl (by kernel_rfl) zCon rfl fun G => ?_
  obtain ⟨r, h1, h2⟩ := mul_exact hx fv_mone (c := -a) (by rw [Int.mul_neg, Int.neg_mul]) (by rw [Int.natAbs_neg]; exact fv_rep hx)
  have h1' : floatBits .mul .f64 x 13830554455654793216 = some r := h1
  have hr64 : r < 18446744073709551616 := Ieee.Format.mul_lt _ h1
  all_goals ((try refine zR2 ?_) <;> (repeat' (with_reducible first | refine And.intro ?_ ?_ | intro _)))
  exact e_resT rfl zRes .nil fsub_nil ⟨r, rfl, hr64, h2, rfl, rfl⟩
theorem l01Turned_inf (x : Nat) (hx : isInf x) : Spec Tryz.prog 296 [.float .f64 x] [] [] (PFl isInf) := by
  refine enter Tryz.func296 Tryz.ntmps296 rfl (by kernel_rfl) zCon rfl fun G => ?_
  obtain ⟨r, h1, h2⟩ := inf_mul hx fv_mone (by decide +kernel)
  have h1' : floatBits .mul .f64 x 13830554455654793216 = some r := h1
  have hr64 : r < 18446744073709551616 := Ieee.Format.mul_lt _ h1
  all_goals ((try refine zR2 ?_) <;> (repeat' (with_reducible first | refine And.intro ?_ ?_ | intro _)))
  exact e_resT rfl zRes .nil fsub_nil ⟨r, rfl, hr64, h2, rfl, rfl⟩

theorem frep_half {N : Nat} (h : FRep (2 * N)) : FRep N := by
  obtain ⟨m, k, h1, h2, h3⟩ := h
  cases k with
  | zero => exact ⟨N, 0, by simp, by rw [Nat.pow_zero, Nat.mul_one] at h1; omega, by omega⟩
  | succ k =>
    refine ⟨m, k, ?_, h2, by omega⟩
    rw [Nat.pow_succ, ← Nat.mul_assoc] at h1
    omega
theorem frep_down (N : Nat) : ∀ j : Nat, FRep (N * 2 ^ j) → FRep N
  | 0, h => by simpa using h
  | j + 1, h => frep_down N j (frep_half (by rw [Nat.pow_succ, ← Nat.mul_assoc, Nat.mul_comm] at h; exact h))
/-- A double that is a number, or an infinity if it cannot be. -/
def Sc (x : Nat) (A : Int) : Prop := x < 18446744073709551616 ∧ (FRep A.natAbs → fv x = some A) ∧ (¬ FRep A.natAbs → isInf x)
theorem Sc.of {x : Nat} {a : Int} (h : fv x = some a) (h64 : x < 18446744073709551616) : Sc x a := ⟨h64, fun _ => h, fun hn => absurd (fv_rep h) hn⟩
theorem Sc.step {x : Nat} {A : Int} (h : Sc x A) : ∃ r, floatBits .mul .f64 x 4611686018427387904 = some r ∧ Sc r (A * 2) := by
  obtain ⟨h64, h1, h2⟩ := h
  by_cases hR : FRep A.natAbs
  · obtain ⟨r, h3, h4, h5⟩ := dbl_step (h1 hR)
    rw [Int.mul_comm] at h4 h5
    exact ⟨r, h3, Ieee.Format.mul_lt _ h3, h4, h5⟩
  · obtain ⟨r, h3, h4⟩ := inf_mul (h2 hR) two_fv (by decide +kernel)
    refine ⟨r, h3, Ieee.Format.mul_lt _ h3, fun h5 => ?_, fun _ => h4⟩
    exact absurd (frep_half (by rw [Int.natAbs_mul, Nat.mul_comm] at h5; exact h5)) hR

theorem l01Scale_up (x : Nat) (a : Int) (k : Nat) (hx : Sc x a) (hk : k ≤ 100000) : Spec Tryz.prog 72 [.float .f64 x, .int .i64 (k : Int)] [] [] (PFl fun r => Sc r (a * (2 ^ k : Nat))) := by
  refine enter Tryz.func72 Tryz.ntmps72 rfl (by kernel_rfl) zCon rfl fun G => ?_
  all_goals ((try refine zS2 ?_) <;> (repeat' (with_reducible first | refine And.intro ?_ ?_ | intro _)))
  refine c_while (ι := { p : Nat × Nat // p.2 ≤ k ∧ Sc p.1 (a * (2 ^ (k - p.2) : Nat)) }) (κ := { r : Nat // Sc r (a * (2 ^ k : Nat)) })
    (fun p => [(0, .float .f64 p.1.1), (1, .int .i64 (p.1.2 : Int))]) (fun _ => []) (fun _ => []) (fun p => p.1.2)
    (fun r => [(0, .float .f64 r.1), (1, .int .i64 0)]) (fun _ => []) (fun _ => []) ⟨(x, k), Nat.le_refl _, by simpa using hx⟩ (fun _ _ s => s.start zSub zRfl zFsub) ?_ ?_
  · rintro ⟨⟨y, j⟩, hj, hy⟩
    dsimp only at hj hy ⊢
    by_cases hj0 : j = 0
    · subst hj0
      all_goals ((try refine zR2 ?_) <;> (repeat' (with_reducible first | refine And.intro ?_ ?_ | intro _)))
      all_goals (first | (exfalso; omega) | skip)
      exact e_out ⟨y, hy⟩ zSub rfl (fun _ h => h)
    · obtain ⟨r, h1, h2⟩ := hy.step
      all_goals ((try refine zR2 ?_) <;> (repeat' (with_reducible first | refine And.intro ?_ ?_ | intro _)))
      all_goals (first | (exfalso; omega) | skip)
      refine e_again ⟨(r, j - 1), by dsimp only; omega, ?_⟩ (by dsimp only; omega) zSub rfl (fun _ h => h)
      dsimp only
      have e : a * (2 ^ (k - (j - 1)) : Nat) = a * (2 ^ (k - j) : Nat) * 2 := by
        rw [show k - (j - 1) = (k - j) + 1 by omega, pw_add]; rfl
      rw [e]; exact h2
  · rintro ⟨r, hr⟩
    all_goals ((try refine zR2 ?_) <;> (repeat' (with_reducible first | refine And.intro ?_ ?_ | intro _)))
    refine c_while (ι := Unit) (κ := Unit) (fun _ => [(0, .float .f64 r), (1, .int .i64 0)]) (fun _ => []) (fun _ => []) (fun _ => 0) (fun _ => [(0, .float .f64 r)]) (fun _ => []) (fun _ => []) () (fun _ _ s => s.start zSub zRfl zFsub) ?_ ?_
    · intro _
      all_goals ((try refine zR2 ?_) <;> (repeat' (with_reducible first | refine And.intro ?_ ?_ | intro _)))
      exact e_out () zSub rfl (fun _ h => h)
    · intro _
      all_goals ((try refine zR2 ?_) <;> (repeat' (with_reducible first | refine And.intro ?_ ?_ | intro _)))
      exact e_resT rfl zRes .nil fsub_nil ⟨r, rfl, hr.1, hr, rfl, rfl⟩

theorem l01Scale_down (x : Nat) (c : Int) (n : Nat) (h64 : x < 18446744073709551616) (hx : fv x = some (c * (2 ^ n : Nat))) (hn : n ≤ 100000) : Spec Tryz.prog 72 [.float .f64 x, .int .i64 (-(n : Int))] [] [] (PFl fun r => fv r = some c) := by
  have hR0 := fv_rep hx
  rw [natAbs_pw] at hR0
  refine enter Tryz.func72 Tryz.ntmps72 rfl (by kernel_rfl) zCon rfl fun G => ?_
  all_goals ((try refine zS2 ?_) <;> (repeat' (with_reducible first | refine And.intro ?_ ?_ | intro _)))
  refine c_while (ι := Unit) (κ := Unit) (fun _ => [(0, .float .f64 x), (1, .int .i64 (-(n : Int)))]) (fun _ => []) (fun _ => []) (fun _ => 0) (fun _ => [(0, .float .f64 x), (1, .int .i64 (-(n : Int)))]) (fun _ => []) (fun _ => []) () (fun _ _ s => s.start zSub zRfl zFsub) ?_ ?_
  · intro _
    all_goals ((try refine zR2 ?_) <;> (repeat' (with_reducible first | refine And.intro ?_ ?_ | intro _)))
    all_goals (first | (exfalso; omega) | skip)
    exact e_out () zSub rfl (fun _ h => h)
  · intro _
    all_goals ((try refine zR2 ?_) <;> (repeat' (with_reducible first | refine And.intro ?_ ?_ | intro _)))
    refine c_while (ι := { p : Nat × Nat // p.2 ≤ n ∧ p.1 < 18446744073709551616 ∧ fv p.1 = some (c * (2 ^ p.2 : Nat)) }) (κ := { r : Nat // r < 18446744073709551616 ∧ fv r = some c })
      (fun p => [(0, .float .f64 p.1.1), (1, .int .i64 (-(p.1.2 : Int)))]) (fun _ => []) (fun _ => []) (fun p => p.1.2)
      (fun r => [(0, .float .f64 r.1)]) (fun _ => []) (fun _ => []) ⟨(x, n), Nat.le_refl _, h64, hx⟩ (fun _ _ s => s.start zSub zRfl zFsub) ?_ ?_
    · rintro ⟨⟨y, j⟩, hj, hy64, hy⟩
      dsimp only at hj hy hy64 ⊢
      by_cases hj0 : j = 0
      · subst hj0
        rw [Nat.pow_zero, Int.natCast_one, Int.mul_one] at hy
        all_goals ((try refine zR2 ?_) <;> (repeat' (with_reducible first | refine And.intro ?_ ?_ | intro _)))
        all_goals (first | (exfalso; omega) | skip)
        exact e_out ⟨y, hy64, hy⟩ zSub rfl (fun _ h => h)
      · have hstep : c * (2 ^ j : Nat) = 2 * (c * (2 ^ (j - 1) : Nat)) := by
          obtain ⟨i, rfl⟩ : ∃ i, j = i + 1 := ⟨j - 1, by omega⟩
          rw [pw_add, Nat.add_sub_cancel, Int.mul_comm]; rfl
        have hRj : FRep (c * (2 ^ (j - 1) : Nat)).natAbs := by
          rw [natAbs_pw]
          apply frep_down _ (n - (j - 1))
          rw [Nat.mul_assoc, ← Nat.pow_add, show j - 1 + (n - (j - 1)) = n by omega]; exact hR0
        obtain ⟨r, h1, h2⟩ := half_exact hy hstep hRj
        have h1' : floatBits .quo .f64 y 4611686018427387904 = some r := h1
        have hr64 : r < 18446744073709551616 := Ieee.Format.div_lt _ h1
        all_goals ((try refine zR2 ?_) <;> (repeat' (with_reducible first | refine And.intro ?_ ?_ | intro _)))
        all_goals (first | (exfalso; omega) | skip)
        exact e_again ⟨(r, j - 1), by dsimp only; omega, hr64, h2⟩ (by dsimp only; omega) zSub rfl (fun _ h => h)
    · rintro ⟨r, hr64, hr⟩
      all_goals ((try refine zR2 ?_) <;> (repeat' (with_reducible first | refine And.intro ?_ ?_ | intro _)))
      exact e_resT rfl zRes .nil fsub_nil ⟨r, rfl, hr64, hr, rfl, rfl⟩
end Go.Proofs.YtbllgmcpebifhaaGreatDoor.K
