/- The reference's floats: finite or not, opposite, doubled and halved. -/
import Derived.Test.YtbllgmcpebifhaaGreatDoorZJi
import Derived.Test.YtbllgmcpebifhaaGreatDoorZNa

section
namespace Go.Proofs.YtbllgmcpebifhaaGreatDoor.K
open Go Go.RowKit
set_option linter.all false
set_option maxRecDepth 4000
set_option maxHeartbeats 1000000
set_option exponentiation.threshold 3000

theorem frep_half {N : Nat} (h : FRep (2 * N)) : FRep N := by
  obtain ⟨m, k, h1, h2, h3⟩ := h
  cases k with
  | zero => exact ⟨N, 0, by simp, by rw [Nat.pow_zero, Nat.mul_one] at h1; omega, by omega⟩
  | succ k =>
    refine ⟨m, k, ?_, h2, by omega⟩
    rw [Nat.pow_succ, ← Nat.mul_assoc] at h1
    omega
/-- A double that is a number, or an infinity if it cannot be. -/
def Sc (x : Nat) (A : Int) : Prop := x < 18446744073709551616 ∧ (FRep A.natAbs → fv x = some A) ∧ (¬ FRep A.natAbs → isInf x)
theorem Sc.of {x : Nat} {a : Int} (h : fv x = some a) (h64 : x < 18446744073709551616) : Sc x a := ⟨h64, fun _ => h, fun hn => absurd (fv_rep h) hn⟩
theorem Sc.step {x : Nat} {A : Int} (h : Sc x A) : ∃ r, floatBits .mul .f64 x 4611686018427387904 = some r ∧ Sc r (A * 2) := by
  obtain ⟨h64, h1, h2⟩ := h
  by_cases hR : FRep A.natAbs
  · obtain ⟨r, h3, h4, h5⟩ := dbl_step (h1 hR)
    rw [Int.mul_comm] at h4 h5
    exact ⟨r, h3, Ieee.Format.mul_lt _ h3, h4, h5⟩
  · obtain ⟨r, h3, h4⟩ := inf_mul (h2 hR) two_fv (by decide +kernel)
    refine ⟨r, h3, Ieee.Format.mul_lt _ h3, fun h5 => ?_, fun _ => h4⟩
    exact absurd (frep_half (by rw [Int.natAbs_mul, Nat.mul_comm] at h5; exact h5)) hR

end Go.Proofs.YtbllgmcpebifhaaGreatDoor.K
end

section
/- The reference's exact number of a float. -/
namespace Go.Proofs.YtbllgmcpebifhaaGreatDoor.K
open Go Go.RowKit
set_option linter.all false
set_option maxRecDepth 4000
set_option maxHeartbeats 1000000
set_option exponentiation.threshold 3000

theorem frep_even {N : Nat} (h : FRep N) (hN : 2 ^ 53 ≤ N) : ∃ c, N = 2 * c ∧ FRep c := by
  obtain ⟨m, k, h1, h2, h3⟩ := h
  cases k with
  | zero => rw [Nat.pow_zero, Nat.mul_one] at h1; omega
  | succ k => exact ⟨m * 2 ^ k, by rw [h1, Nat.pow_succ]; simp only [Nat.mul_comm, Nat.mul_left_comm], m, k, rfl, h2, by omega⟩
theorem frep_odd {N : Nat} (h : FRep N) (hN : ¬ N % 2 ^ 1074 = 0) : FRep (2 * N) ∧ 2 * N < 2 ^ 53 * 2 ^ 1074 := by
  obtain ⟨m, k, h1, h2, h3⟩ := h
  have hk : k < 1074 := by
    rcases Nat.lt_or_ge k 1074 with h | h
    · exact h
    · exfalso; apply hN
      rw [h1, show k = (k - 1074) + 1074 by omega, Nat.pow_add, ← Nat.mul_assoc]
      exact Nat.mul_mod_left _ _
  have e : 2 * N = m * 2 ^ (k + 1) := by rw [h1, Nat.pow_succ]; simp only [Nat.mul_comm, Nat.mul_left_comm]
  refine ⟨⟨m, k + 1, e, h2, by omega⟩, ?_⟩
  rw [e]
  exact Nat.lt_of_lt_of_le (Nat.mul_lt_mul_of_pos_right h2 (Nat.pow_pos (by omega))) (Nat.mul_le_mul_left _ (Nat.pow_le_pow_right (by omega) (by omega)))
theorem cut_lt {b : Int} (h : b.natAbs < 2 ^ 53 * 2 ^ 1074) : b.natAbs / 2 ^ 1074 < 2 ^ 53 := (Nat.div_lt_iff_lt_mul (Nat.pow_pos (by omega))).2 h
/-- A float cut to an int64, and back. -/
theorem cut_int {x : Nat} {b : Int} (hx : fv x = some b) (hb : b.natAbs < 2 ^ 53 * 2 ^ 1074) :
    ∃ z : Int, floatToIntVal .f64 x .i64 = some z ∧ z.natAbs < 9007199254740992 ∧ fv (floatOfInt .f64 z) = some (z * (2 ^ 1074 : Nat)) ∧ (b.natAbs % 2 ^ 1074 = 0 ↔ z * (2 ^ 1074 : Nat) = b) := by
  have h1 := toInt_exact hx
  have h2 := cut_lt hb
  have e53 : (2 : Nat) ^ 53 = 9007199254740992 := by decide
  obtain ⟨q, hq⟩ : ∃ q, q = b.natAbs / 2 ^ 1074 := ⟨_, rfl⟩
  obtain ⟨z, hz⟩ : ∃ z : Int, z = if b < 0 then -(q : Int) else (q : Int) := ⟨_, rfl⟩
  rw [← hq] at h1 h2
  rw [← hz] at h1
  rw [e53] at h2
  have hzq : z.natAbs = q := by rw [hz]; split <;> omega
  refine ⟨z, ?_, by omega, ofInt_exact z (by rw [e53]; omega), ?_⟩
  · unfold floatToIntVal
    have e : (FloatKind.f64.decode x) = Ieee.double.read x := rfl
    rw [e, h1]
    dsimp only
    rw [if_pos (by
      have m1 : IntKind.i64.min = -9223372036854775808 := by decide
      have m2 : IntKind.i64.max = 9223372036854775807 := by decide
      rw [m1, m2]; omega)]
  · have hdm := Nat.div_add_mod b.natAbs (2 ^ 1074)
    rw [← hq] at hdm
    have hc : ((q : Nat) : Int) * ((2 ^ 1074 : Nat) : Int) = ((2 ^ 1074 * q : Nat) : Int) := by rw [Int.natCast_mul, Int.mul_comm]
    have hzz : z * ((2 ^ 1074 : Nat) : Int) = if b < 0 then -((2 ^ 1074 * q : Nat) : Int) else ((2 ^ 1074 * q : Nat) : Int) := by
      rw [hz]; split
      · rw [Int.neg_mul, hc]
      · exact hc
    rw [hzz]
    generalize 2 ^ 1074 * q = A at hdm
    generalize b.natAbs % 2 ^ 1074 = r at hdm
    constructor
    · intro h; split <;> omega
    · intro h; split at h <;> omega
theorem fv_p53 : fv 4845873199050653696 = some (((2 ^ 53 * 2 ^ 1074 : Nat)) : Int) := by decide +kernel
theorem fv_m53' : fv (Op.negFloat .f64 4845873199050653696) = some (-(((2 ^ 53 * 2 ^ 1074 : Nat)) : Int)) := fv_neg (by decide) fv_p53

/-- The exact number of a float is handed back. -/
def POf (a : Int) (r : Value) (L' : List Own) (F' : List Fact) : Prop := ∃ v e, VEq a v e ∧ Nrm v e ∧ v.natAbs < 2 ^ 53 ∧ -1074 ≤ e ∧ e ≤ 1024 ∧ PDw v e r L' F'
theorem l03Of_spec (x : Nat) (a : Int) (h64 : x < 18446744073709551616) (hx : fv x = some a) : Spec Tryz.prog 205 [.float .f64 x] [] [] (POf a) := by
  refine enter Tryz.func205 Tryz.ntmps205 rfl (by kernel_rfl) zCon rfl fun G => ?_
  by_cases ha : a = 0
  · subst ha
    all_goals ((try refine zR2 ?_) <;> (repeat' (with_reducible first | refine And.intro ?_ ?_ | intro _)))
    all_goals first | (exfalso; contradiction) | skip
    refine ends_nilInts .i64 ?_
    exact e_resT rfl zRes .nil (fsub_cons (.head _) fsub_nil) ⟨0, 0, VEq.of_zero 0, .inl ⟨rfl, rfl⟩, by decide, by omega, by omega, .slice none 0 0, by simp [retVal, vDyadic, sgn], rfl, by simp [limbs_zero]⟩
  · all_goals ((try refine zR2 ?_) <;> (repeat' (with_reducible first | refine And.intro ?_ ?_ | intro _)))
    all_goals first | (exfalso; contradiction) | skip
    rename_i b2 _
    have hp53 := fv_p53
    have hm53 := fv_m53'
    obtain ⟨T, hT⟩ : ∃ T : Nat, T = 2 ^ 53 * 2 ^ 1074 := ⟨_, rfl⟩
    rw [← hT] at hp53 hm53
    have hab : ∀ (b : Int) (j : Nat), a = b * (2 ^ j : Nat) → j < 2098 := by
      intro b j h
      have h1 := frep_lt (fv_rep hx)
      rw [h, natAbs_pw] at h1
      have hb : b ≠ 0 := by intro h0; subst h0; apply ha; rw [h]; simp
      have h2 : 1 * 2 ^ j ≤ b.natAbs * 2 ^ j := Nat.mul_le_mul_right _ (by omega)
      rw [Nat.one_mul] at h2
      exact (Nat.pow_lt_pow_iff_right (a := 2) (by omega)).1 (Nat.lt_of_le_of_lt h2 h1)
    refine c_while (ι := { p : Nat × Int × Nat // p.1 < 18446744073709551616 ∧ fv p.1 = some p.2.1 ∧ a = p.2.1 * (2 ^ p.2.2 : Nat) }) (κ := { p : Nat × Int × Nat // p.1 < 18446744073709551616 ∧ fv p.1 = some p.2.1 ∧ a = p.2.1 * (2 ^ p.2.2 : Nat) ∧ p.2.1.natAbs < T })
      (fun p => [(0, .float .f64 p.1.1), (2, ptr b2), (3, .int .i64 (p.1.2.2 : Int)), (4, .float .f64 4845873199050653696)]) (fun _ => [.box b2 [.int .i64 0, .slice none 0 0, .int .i64 0] 48]) (fun _ => []) (fun p => p.1.2.1.natAbs)
      (fun p => [(0, .float .f64 p.1.1), (2, ptr b2), (3, .int .i64 (p.1.2.2 : Int))]) (fun _ => [.box b2 [.int .i64 0, .slice none 0 0, .int .i64 0] 48]) (fun _ => []) ⟨(x, a, 0), h64, hx, by simp⟩ (fun _ _ s => s.start zSub zRfl zFsub) ?_ ?_
    · rintro ⟨⟨y, b, j⟩, hy64, hy, hb⟩
      dsimp only at hy64 hy hb ⊢
      have hj := hab b j hb
      have hb0 : b ≠ 0 := by intro h0; subst h0; apply ha; rw [hb]; simp
      by_cases hlt : b.natAbs < T
      · all_goals ((try refine zR2 ?_) <;> (repeat' (with_reducible first | refine And.intro ?_ ?_ | intro _)))
        all_goals (first | (exfalso; omega) | skip)
        exact e_out ⟨(y, b, j), hy64, hy, hb, hlt⟩ zSub rfl (fun _ h => h)
      · obtain ⟨c, hc, hcR⟩ := frep_even (fv_rep hy) (by
          rw [hT] at hlt
          have h1 : (2 : Nat) ^ 53 * 1 ≤ 2 ^ 53 * 2 ^ 1074 := Nat.mul_le_mul_left _ (Nat.pow_pos (by omega))
          omega)
        obtain ⟨d, hd, hdR⟩ : ∃ d : Int, b = 2 * d ∧ FRep d.natAbs := by
          by_cases h0 : b < 0
          · exact ⟨-(c : Int), by omega, by rw [show (-(c : Int)).natAbs = c by omega]; exact hcR⟩
          · exact ⟨(c : Int), by omega, by rw [Int.natAbs_natCast]; exact hcR⟩
        obtain ⟨r, h1, h2⟩ := half_exact hy hd hdR
        have h1' : floatBits .quo .f64 y 4611686018427387904 = some r := h1
        have hr64 : r < 18446744073709551616 := Ieee.Format.div_lt _ h1
        have hbd : a = d * (2 ^ (j + 1) : Nat) := by rw [hb, hd, pw_add, Int.mul_comm 2 d, Int.mul_assoc, Int.mul_assoc, Int.mul_comm (2 : Int)]; rfl
        clear hab hb hT
        all_goals ((try refine zR2 ?_) <;> (repeat' (with_reducible first | refine And.intro ?_ ?_ | intro _)))
        all_goals (first | (exfalso; omega) | skip)
        all_goals exact e_again ⟨(r, d, j + 1), hr64, h2, hbd⟩ (by dsimp only; omega) zSub rfl (fun _ h => h)
    · rintro ⟨⟨y0, b0, j⟩, hy64, hy, hb, hlt⟩
      dsimp only at hy64 hy hb hlt ⊢
      have hj := hab b0 j hb
      have hb00 : b0 ≠ 0 := by intro h0; subst h0; apply ha; rw [hb]; simp
      all_goals ((try refine zR2 ?_) <;> (repeat' (with_reducible first | refine And.intro ?_ ?_ | intro _)))
      refine c_while (ι := { p : Nat × Int × Nat // p.1 < 18446744073709551616 ∧ fv p.1 = some p.2.1 ∧ p.2.1 = b0 * (2 ^ p.2.2 : Nat) ∧ p.2.1.natAbs < T ∧ p.2.2 ≤ 1074 }) (κ := { p : Nat × Int × Nat // floatToIntVal .f64 p.1 .i64 = some p.2.1 ∧ p.2.1.natAbs < 9007199254740992 ∧ b0 * (2 ^ p.2.2 : Nat) = p.2.1 * (2 ^ 1074 : Nat) ∧ p.2.2 ≤ 1074 })
        (fun p => [(0, .float .f64 p.1.1), (2, ptr b2), (3, .int .i64 ((j : Int) - (p.1.2.2 : Int)))]) (fun _ => [.box b2 [.int .i64 0, .slice none 0 0, .int .i64 0] 48]) (fun _ => []) (fun p => 1074 - p.1.2.2)
        (fun p => [(0, .float .f64 p.1.1), (2, ptr b2), (3, .int .i64 ((j : Int) - (p.1.2.2 : Int)))]) (fun _ => [.box b2 [.int .i64 0, .slice none 0 0, .int .i64 0] 48]) (fun _ => []) ⟨(y0, b0, 0), hy64, hy, by simp, hlt, Nat.zero_le _⟩ (fun a w s => s.start (by
          refine sub_cons rfl (sub_cons rfl (sub_same rfl ?_ sub_nil))
          simp) rfl zFsub) ?_ ?_
      · rintro ⟨⟨y, b, i⟩, hy64, hy, hb', hlt, hi⟩
        dsimp only at hy64 hy hb' hlt hi ⊢
        obtain ⟨z, hz1, hz2, hz3, hz4⟩ := cut_int hy (by rw [← hT]; exact hlt)
        by_cases hdv : b.natAbs % 2 ^ 1074 = 0
        · have hzb := hz4.1 hdv
          have hdec : ¬ (z * ((2 ^ 1074 : Nat) : Int) ≠ b) := fun h => h hzb
          all_goals ((try refine zR2 ?_) <;> (repeat' (with_reducible first | refine And.intro ?_ ?_ | intro _)))
          all_goals first | (exfalso; contradiction) | skip
          exact e_out ⟨(y, z, i), hz1, hz2, by rw [← hb', hzb], hi⟩ zSub rfl (fun _ h => h)
        · have hi' : i < 1074 := by
            rcases Nat.lt_or_ge i 1074 with h | h
            · exact h
            · exfalso; apply hdv
              rw [show i = 1074 by omega] at hb'
              rw [hb', natAbs_pw]; exact Nat.mul_mod_left _ _
          obtain ⟨h5, h6⟩ := frep_odd (fv_rep hy) hdv
          obtain ⟨r, h1, h2, _⟩ := dbl_step hy
          have h2 := h2 (by rw [Int.natAbs_mul]; exact h5)
          have h1' : floatBits .mul .f64 y 4611686018427387904 = some r := h1
          have hr64 : r < 18446744073709551616 := Ieee.Format.mul_lt _ h1
          have hdec : z * ((2 ^ 1074 : Nat) : Int) ≠ b := fun h => hdv (hz4.2 h)
          have hb2 : 2 * b = b0 * (2 ^ (i + 1) : Nat) := by rw [hb', pw_add, Int.mul_comm]; rfl
          have h7 : (2 * b).natAbs < T := by rw [Int.natAbs_mul, hT]; exact h6
          clear hz4 hab hb' hb h6 hdv hT
          all_goals ((try refine zR2 ?_) <;> (repeat' (with_reducible first | refine And.intro ?_ ?_ | intro _)))
          all_goals first | (exfalso; contradiction) | skip
          exact e_again ⟨(r, 2 * b, i + 1), hr64, h2, hb2, h7, by dsimp only; omega⟩ (by dsimp only; omega) (by
            refine sub_cons rfl (sub_cons rfl (sub_same rfl ?_ sub_nil))
            congr 1; dsimp only; omega) rfl (fun _ h => h)
      · rintro ⟨⟨y, z, i⟩, hz1, hz2, hz3, hi⟩
        dsimp only at hz1 hz2 hz3 hi ⊢
        have hz0 : z ≠ 0 := by
          intro h0; subst h0
          rw [Int.zero_mul] at hz3
          rcases Int.mul_eq_zero.1 hz3 with h | h
          · exact hb00 h
          · exact absurd h (Int.ne_of_gt (pw_pos i))
        have hV : VEq a z ((j : Int) - i) := ⟨i, j + 1074, by rw [hb, Int.mul_assoc, Int.mul_comm ((2 ^ j : Nat) : Int), ← Int.mul_assoc, hz3, Int.mul_assoc, ← Int.natCast_mul, ← Nat.pow_add, Nat.add_comm], by omega⟩
        have hV2 : VEq a (nv z) (ne z ((j : Int) - i)) := by
          have := hV.shift (nv_mul z)
          unfold ne
          rw [if_neg hz0]; exact this
        have hN := nv_nrm z ((j : Int) - i)
        have hodd : nv z % 2 = 1 := by
          rcases hN with ⟨h, _⟩ | h
          · exact absurd (nv_zero.1 h) hz0
          · exact h
        obtain ⟨q1, q2, q3, _⟩ := hV2.bounds (fv_rep hx) hodd
        have e3 : (16777216 : Nat) ^ 3 = 4722366482869645213696 := by decide
        have hzl : (limbs z.natAbs).length ≤ 3 := limbs_len_le 3 z.natAbs (by rw [e3]; omega)
        have hzt : twos z.natAbs ≤ 53 := twos_blen (by rw [show (2 : Nat) ^ 53 = 9007199254740992 by decide]; exact hz2)
        clear hab hb hT hz3 hV hb00 hlt hy hx hp53 hm53
        all_goals ((try refine zR2 ?_) <;> (repeat' (with_reducible first | refine And.intro ?_ ?_ | intro _)))
        refine l_call rfl zEvs rfl (l02Of_spec z (by omega)) zTake zFsub ?_
        rintro _ L' F' ⟨u', rfl, rfl, rfl⟩
        refine l_isList (.head _) fun hs' => ?_
        all_goals ((try refine zR2 ?_) <;> (repeat' (with_reducible first | refine And.intro ?_ ?_ | intro _)))
        refine l_call rfl zEvs rfl (l03Make_spec u' z ((j : Int) - i) (by omega) (by omega) (by omega)) zTake zFsub ?_
        rintro _ L' F' ⟨u2, rfl, rfl, rfl⟩
        refine l_isList (.head _) fun hs2 => ?_
        all_goals ((try refine zR2 ?_) <;> (repeat' (with_reducible first | refine And.intro ?_ ?_ | intro _)))
        exact e_resT rfl zRes .nil (fsub_cons zMem fsub_nil) ⟨nv z, ne z ((j : Int) - i), hV2, hN, q1, q2, by omega, u2, rfl, rfl, rfl⟩
end Go.Proofs.YtbllgmcpebifhaaGreatDoor.K
end
