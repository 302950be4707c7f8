/- Go's math functions at finite floats: Abs, IsInf, IsNaN, Frexp, Ldexp where it is exact. -/
import Derived.Test.YtbllgmcpebifhaaGreatDoorZKo
import Derived.Test.YtbllgmcpebifhaaGreatDoorZMi

section
namespace Go.Proofs.YtbllgmcpebifhaaGreatDoor.K
open Go Go.RowKit
set_option linter.all false
set_option maxRecDepth 4000
set_option maxHeartbeats 1000000
set_option exponentiation.threshold 3000

/-- A float is handed back. -/
def PFl (p : Nat → Prop) (r : Value) (L' : List Own) (F' : List Fact) : Prop := ∃ x, r = .float .f64 x ∧ x < 18446744073709551616 ∧ p x ∧ L' = [] ∧ F' = []
/-- A float and a number are handed back. -/
def PFI (p : Nat → Int → Prop) (r : Value) (L' : List Own) (F' : List Fact) : Prop := ∃ x k, r = .tuple #[.float .f64 x, .int .i64 k] ∧ x < 18446744073709551616 ∧ p x k ∧ L' = [] ∧ F' = []

theorem Abs64_spec (x : Nat) (hx : x < 18446744073709551616) : Spec Tryz.prog 162 [.float .f64 x] [] [] (Gives (.float .f64 (x % 9223372036854775808))) := by
  have h1 : bits .andNot .u64 (x : Int) 9223372036854775808 = ((x % 9223372036854775808 : Nat) : Int) := by
    rw [u64_andNot _ _ (by omega) (by omega) (by decide) (by decide), Int.toNat_natCast]
    congr 1
    exact abs_cut x
  refine enter Tryz.func162 Tryz.ntmps162 rfl (by kernel_rfl) zCon rfl fun G => ?_
  all_goals ((try refine zR2 ?_) <;> (repeat' (with_reducible first | refine And.intro ?_ ?_ | intro _)))
  (refine e_gives rfl zRes ?_; first | rfl | (simp [retVal, *]; done) | (simp_all [retVal]; done) | (simp only [retVal]))
theorem IsNaN_spec (x : Nat) (a : Int) (hx : fv x = some a) : Spec Tryz.prog 290 [.float .f64 x] [] [] (Gives (.bool false)) := by
  refine enter Tryz.func290 Tryz.ntmps290 rfl (by kernel_rfl) zCon rfl fun G => ?_
  all_goals ((try refine zR2 ?_) <;> (repeat' (with_reducible first | refine And.intro ?_ ?_ | intro _)))
  refine e_gives rfl zRes ?_
  simp [retVal]
theorem IsInf_spec (x : Nat) (a : Int) (h64 : x < 18446744073709551616) (hx : fv x = some a) : Spec Tryz.prog 289 [.float .f64 x, .int .i64 0] [] [] (Gives (.bool false)) := by
  refine enter Tryz.func289 Tryz.ntmps289 rfl (by kernel_rfl) zCon rfl fun G => ?_
  have ha := fv_abs hx
  have hm := fv_max
  have hle := frep_le (fv_rep hx)
  have hA := Abs64_spec x h64
  all_goals (((try refine zR2 ?_) <;> (repeat' (with_reducible first | refine And.intro ?_ ?_ | intro _))) <;> (repeat' ((first | ((with_reducible apply l_callP); exact rfl; exact zEvs; exact rfl; (with_reducible apply hA); (case hF => exact zFsub); (try any_goals (refine propId ?_; omega)))) <;> ((try refine zR2 ?_) <;> (repeat' (with_reducible first | refine And.intro ?_ ?_ | intro _))))))
  all_goals (first | (exfalso; omega) | skip)
  refine e_gives rfl zRes ?_
  simp only [retVal]
  congr 1
  refine decide_eq_false ?_
  generalize 9007199254740991 * 2 ^ 2045 = M at hle ⊢
  omega

theorem normalize_spec (x : Nat) (a : Int) (h64 : x < 18446744073709551616) (hx : fv x = some a) : Spec Tryz.prog 291 [.float .f64 x] [] [] (PFI fun y k => ∃ (b : Int) (j : Nat), fv y = some b ∧ b = a * (2 ^ j : Nat) ∧ k = -(j : Int) ∧ j ≤ 52 ∧ (a ≠ 0 → 2 ^ 52 ≤ b.natAbs)) := by
  refine enter Tryz.func291 Tryz.ntmps291 rfl (by kernel_rfl) zCon rfl fun G => ?_
  have ha := fv_abs hx
  obtain ⟨T, hT⟩ : ∃ T : Int, T = 4503599627370496 := ⟨_, rfl⟩
  have ht : fv 4503599627370496 = some T := by rw [hT]; exact fv_tiny
  have hA := Abs64_spec x h64
  have e52 : (2 : Nat) ^ 52 = 4503599627370496 := by decide
  all_goals (((try refine zR2 ?_) <;> (repeat' (with_reducible first | refine And.intro ?_ ?_ | intro _))) <;> (repeat' ((first | ((with_reducible apply l_callP); exact rfl; exact zEvs; exact rfl; (with_reducible apply hA); (case hF => exact zFsub); (try any_goals (refine propId ?_; omega)))) <;> ((try refine zR2 ?_) <;> (repeat' (with_reducible first | refine And.intro ?_ ?_ | intro _))))))
  · have hlt : (a.natAbs : Int) < T := by assumption
    obtain ⟨y, hy1, hy2⟩ := mul_exact hx fv_p52 (c := a * (2 ^ 52 : Nat)) (by rw [e52, Int.mul_assoc]; rfl) (by rw [natAbs_pw]; exact ⟨a.natAbs, 52, rfl, by rw [show (2 : Nat) ^ 53 = 9007199254740992 by decide]; omega, by omega⟩)
    have hy64 : y < 18446744073709551616 := Ieee.Format.mul_lt _ hy1
    have hy1' : floatBits .mul .f64 x 4841369599423283200 = some y := hy1
    all_goals ((try refine zR2 ?_) <;> (repeat' (with_reducible first | refine And.intro ?_ ?_ | intro _)))
    refine e_resT rfl zRes .nil fsub_nil ⟨y, -52, rfl, hy64, ⟨_, 52, hy2, rfl, rfl, by omega, fun h0 => ?_⟩, rfl, rfl⟩
    rw [natAbs_pw]
    have : 1 * 2 ^ 52 ≤ a.natAbs * 2 ^ 52 := Nat.mul_le_mul_right _ (by omega)
    omega
  · have hge : ¬ (a.natAbs : Int) < T := by assumption
    exact e_resT rfl zRes .nil fsub_nil ⟨x, 0, rfl, h64, ⟨a, 0, hx, by simp, rfl, by omega, fun _ => by rw [e52]; omega⟩, rfl, rfl⟩

end Go.Proofs.YtbllgmcpebifhaaGreatDoor.K
end

section
/- Go's math.Ldexp where its answer is a float. -/
namespace Go.Proofs.YtbllgmcpebifhaaGreatDoor.K
open Go Go.RowKit
set_option linter.all false
set_option maxRecDepth 4000
set_option maxHeartbeats 1000000
set_option exponentiation.threshold 3000

theorem ld_low {F A j : Nat} {N : Nat} (h : F * 2 ^ A = N * 2 ^ j) (hN : N ≠ 0) (hF : F < 9007199254740992) : j < 53 + A := by
  have e53 : (2 : Nat) ^ 53 = 9007199254740992 := by decide
  have h1 : 1 * 2 ^ j ≤ N * 2 ^ j := Nat.mul_le_mul_right _ (by omega)
  rw [← h, Nat.one_mul] at h1
  have h2 : F * 2 ^ A < 2 ^ (53 + A) := by rw [Nat.pow_add, e53]; exact Nat.mul_lt_mul_of_pos_right hF (Nat.pow_pos (by omega))
  exact (Nat.pow_lt_pow_iff_right (a := 2) (by omega)).1 (Nat.lt_of_le_of_lt h1 h2)
theorem ld_high {F A j : Nat} {N : Nat} (h : F * 2 ^ A = N * 2 ^ j) (hN : FRep N) (hF : 4503599627370496 ≤ F) : 52 + A < 2098 + j := by
  have e52 : (2 : Nat) ^ 52 = 4503599627370496 := by decide
  have h1 : N * 2 ^ j < 2 ^ (2098 + j) := by rw [Nat.pow_add]; exact Nat.mul_lt_mul_of_pos_right (frep_lt hN) (Nat.pow_pos (by omega))
  have h2 : 2 ^ (52 + A) ≤ F * 2 ^ A := by rw [Nat.pow_add, e52]; exact Nat.mul_le_mul_right _ hF
  rw [h] at h2
  exact (Nat.pow_lt_pow_iff_right (a := 2) (by omega)).1 (Nat.lt_of_le_of_lt h2 h1)
theorem ld_set (s : Bool) (fr E2 : Nat) (hfr : fr < 4503599627370496) (h2 : E2 ≤ 2046) (z : Int) (hz : z = (E2 : Int)) : bits .or .u64 ((s.toNat * 9223372036854775808 + fr : Nat) : Int) (z * 4503599627370496) = ((mkW s E2 fr : Nat) : Int) := by
  subst hz
  have hs1 : s.toNat ≤ 1 := by cases s <;> decide
  rw [← mkW_set s E2 fr h2 hfr]
  have hY : s.toNat * 9223372036854775808 + fr < 18446744073709551616 := by omega
  generalize s.toNat * 9223372036854775808 + fr = Y at hY ⊢
  clear hfr hs1
  rw [u64_or _ _ (by omega) (by omega) (by omega) (by omega), Int.toNat_natCast, show ((E2 : Int) * 4503599627370496).toNat = E2 * 4503599627370496 by omega]
theorem ld_case1 (s : Bool) (fr E E2 i m : Nat) (N : Int) (hfr : fr < 4503599627370496) (hNb : Ieee.signed s (4503599627370496 + fr) (E - 1 + i) = N * (2 ^ m : Nat)) (hR : FRep N.natAbs) (hE : 1 ≤ E) (he : E2 + m = E + i) (h1 : 1 ≤ E2) (h2 : E2 ≤ 2046) :
    mkW s E2 fr < 18446744073709551616 ∧ ∃ r, floatBits .mul .f64 4607182418800017408 (mkW s E2 fr) = some r ∧ r < 18446744073709551616 ∧ fv r = some N := by
  have hfv := fv_mkW s E2 fr ⟨h1, h2⟩ hfr
  have hval : Ieee.signed s (4503599627370496 + fr) (E2 - 1) = N := by
    apply pw_cancel (k := m)
    have e : E2 - 1 + m = E - 1 + i := by clear hNb hfv; omega
    rw [← signed_scale, e, hNb]
  rw [hval] at hfv
  obtain ⟨r, hr1, hr2⟩ := mul_exact fv_one hfv (c := N) (Int.mul_comm _ _) hR
  have hr64 : r < 18446744073709551616 := Ieee.Format.mul_lt _ hr1
  have hz : mkW s E2 fr < 18446744073709551616 := mkW_lt s E2 fr h2 hfr
  exact ⟨hz, r, hr1, hr64, hr2⟩
theorem ld_case2 (s : Bool) (fr E E2 i m : Nat) (N : Int) (hfr : fr < 4503599627370496) (hNb : Ieee.signed s (4503599627370496 + fr) (E - 1 + i) = N * (2 ^ m : Nat)) (hR : FRep N.natAbs) (hE : 1 ≤ E) (he : E2 + m = E + i + 53) (h1 : 1 ≤ E2) (h2 : E2 ≤ 2046) :
    mkW s E2 fr < 18446744073709551616 ∧ ∃ r, floatBits .mul .f64 4368491638549381120 (mkW s E2 fr) = some r ∧ r < 18446744073709551616 ∧ fv r = some N := by
  have hfv := fv_mkW s E2 fr ⟨h1, h2⟩ hfr
  have hval : Ieee.signed s (4503599627370496 + fr) (E2 - 1) = N * (2 ^ 53 : Nat) := by
    apply pw_cancel (k := m)
    have e : E2 - 1 + m = E - 1 + i + 53 := by clear hNb hfv; omega
    rw [← signed_scale, e, signed_scale, hNb, Int.mul_assoc, Int.mul_assoc, Int.mul_comm ((2 ^ m : Nat) : Int)]
  rw [hval] at hfv
  obtain ⟨r, hr1, hr2⟩ := mul_exact fv_m53 hfv (c := N) (by rw [Int.mul_comm, ← pw_add]) hR
  have hr64 : r < 18446744073709551616 := Ieee.Format.mul_lt _ hr1
  have hz : mkW s E2 fr < 18446744073709551616 := mkW_lt s E2 fr h2 hfr
  exact ⟨hz, r, hr1, hr64, hr2⟩
/-- ldexp where its answer is a float. -/
theorem ldexp_spec (x : Nat) (a N k : Int) (i j : Nat) (h64 : x < 18446744073709551616) (hx : fv x = some a) (hN : a * (2 ^ i : Nat) = N * (2 ^ j : Nat)) (hk : k = (i : Int) - j) (hR : FRep N.natAbs) (hkb : -100000 ≤ k ∧ k ≤ 100000) :
    Spec Tryz.prog 263 [.float .f64 x, .int .i64 k] [] [] (PFl fun r => fv r = some N) := by
  refine enter Tryz.func263 Tryz.ntmps263 rfl (by kernel_rfl) zCon rfl fun G => ?_
  have hI := IsInf_spec x a h64 hx
  have hNN := IsNaN_spec x a hx
  by_cases h0 : a = 0
  · subst h0
    have hN0 : N = 0 := by
      rw [Int.zero_mul] at hN
      rcases Int.mul_eq_zero.1 hN.symm with h | h
      · exact h
      · exact absurd h (Int.ne_of_gt (pw_pos j))
    all_goals (((try refine zR2 ?_) <;> (repeat' (with_reducible first | refine And.intro ?_ ?_ | intro _))) <;> (repeat' ((first | ((with_reducible apply l_callP); exact rfl; exact zEvs; exact rfl; (with_reducible apply hI); (case hF => exact zFsub); (try any_goals (refine propId ?_; omega))) | ((with_reducible apply l_callP); exact rfl; exact zEvs; exact rfl; (with_reducible apply hNN); (case hF => exact zFsub); (try any_goals (refine propId ?_; omega)))) <;> ((try refine zR2 ?_) <;> (repeat' (with_reducible first | refine And.intro ?_ ?_ | intro _))))))
    all_goals first | (exfalso; contradiction) | skip
    exact e_resT rfl zRes .nil fsub_nil ⟨x, rfl, h64, by rw [hN0]; exact hx, rfl, rfl⟩
  · have hN0 : N ≠ 0 := by
      intro h; subst h
      rw [Int.zero_mul] at hN
      rcases Int.mul_eq_zero.1 hN with h | h
      · exact h0 h
      · exact absurd h (Int.ne_of_gt (pw_pos i))
    all_goals (((try refine zR2 ?_) <;> (repeat' (with_reducible first | refine And.intro ?_ ?_ | intro _))) <;> (repeat' ((first | ((with_reducible apply l_callP); exact rfl; exact zEvs; exact rfl; (with_reducible apply hI); (case hF => exact zFsub); (try any_goals (refine propId ?_; omega))) | ((with_reducible apply l_callP); exact rfl; exact zEvs; exact rfl; (with_reducible apply hNN); (case hF => exact zFsub); (try any_goals (refine propId ?_; omega)))) <;> ((try refine zR2 ?_) <;> (repeat' (with_reducible first | refine And.intro ?_ ?_ | intro _))))))
    all_goals first | (exfalso; contradiction) | skip
    refine l_call rfl zEvs rfl (normalize_spec x a h64 hx) zTake zFsub ?_
    rintro _ L' F' ⟨y, kk, rfl, hy64, ⟨b, j1, hy, hb, rfl, hj1, hbig⟩, rfl, rfl⟩
    obtain ⟨s, E, fr, rfl, hE1, hE2, hfr, hbs⟩ := fv_fields hy (by omega) (hbig h0)
    have hd := mkW_div s E fr hE2 hfr
    have hs1 : s.toNat ≤ 1 := by cases s <;> decide
    have b1 : bits .and .i64 ((mkW s E fr : Nat) / 4503599627370496 : Int) 2047 = (E : Int) := by
      rw [show ((mkW s E fr : Nat) / 4503599627370496 : Int) = ((s.toNat * 2048 + E : Nat) : Int) by omega]
      exact i64_and2047 s E (by omega)
    have b2 : bits .andNot .u64 ((mkW s E fr : Nat) : Int) 9218868437227405312 = ((s.toNat * 9223372036854775808 + fr : Nat) : Int) := by
      rw [u64_andNot _ _ (by omega) (by omega) (by decide) (by decide), Int.toNat_natCast]
      exact congrArg _ (mkW_cut s E fr hE2 hfr)
    -- the number, by its fields
    have hNb : Ieee.signed s (4503599627370496 + fr) (E - 1 + i) = N * (2 ^ (j + j1) : Nat) := by
      rw [signed_scale, ← hbs, hb, Int.mul_assoc, Int.mul_comm ((2 ^ j1 : Nat) : Int), ← Int.mul_assoc, hN, pw_add]
    have hNn := congrArg Int.natAbs hNb
    rw [signed_abs, natAbs_pw] at hNn
    have hlow : j + j1 < 53 + (E - 1 + i) := ld_low hNn (by omega) (by omega)
    have hhigh : 52 + (E - 1 + i) < 2098 + (j + j1) := ld_high hNn hR (by omega)
    have hlow' : -1075 < (i : Int) - j - j1 + E - 1023 ∧ (i : Int) - j - j1 + E - 1023 ≤ 1023 := by clear hNn hNb b1 b2 hd; omega
    have hbd : (j1 : Int) ≤ 52 ∧ (E : Int) ≤ 2046 ∧ 1 ≤ (E : Int) := by clear hNn hNb b1 b2 hd; omega
    have hc1 : ∀ ex : Int, ex = (i : Int) - j - j1 + E - 1023 → ¬ ex < -1022 → ∃ E2 r, bits .or .u64 ((s.toNat * 9223372036854775808 + fr : Nat) : Int) ((ex + 1023) * 4503599627370496) = ((mkW s E2 fr : Nat) : Int) ∧ mkW s E2 fr < 18446744073709551616 ∧ floatBits .mul .f64 4607182418800017408 (mkW s E2 fr) = some r ∧ r < 18446744073709551616 ∧ fv r = some N := by
      intro ex hex hde
      obtain ⟨E2, h1, h2, h3, h4⟩ : ∃ E2 : Nat, ex + 1023 = (E2 : Int) ∧ 1 ≤ E2 ∧ E2 ≤ 2046 ∧ E2 + (j + j1) = E + i := by
        clear hNn hNb b1 b2 hd hR hN hb hbs hx hy hlow hhigh hk hkb hbig
        exact ⟨(ex + 1023).toNat, by omega, by omega, by omega, by omega⟩
      obtain ⟨h5, r, h6, h7, h8⟩ := ld_case1 s fr E E2 i (j + j1) N hfr hNb hR hE1 h4 h2 h3
      exact ⟨E2, r, ld_set s fr E2 hfr h3 _ h1, h5, h6, h7, h8⟩
    have hc2 : ∀ ex : Int, ex = (i : Int) - j - j1 + E - 1023 → ex < -1022 → ∃ E2 r, bits .or .u64 ((s.toNat * 9223372036854775808 + fr : Nat) : Int) ((ex + 53 + 1023) * 4503599627370496) = ((mkW s E2 fr : Nat) : Int) ∧ mkW s E2 fr < 18446744073709551616 ∧ floatBits .mul .f64 4368491638549381120 (mkW s E2 fr) = some r ∧ r < 18446744073709551616 ∧ fv r = some N := by
      intro ex hex hde
      obtain ⟨E2, h1, h2, h3, h4⟩ : ∃ E2 : Nat, ex + 53 + 1023 = (E2 : Int) ∧ 1 ≤ E2 ∧ E2 ≤ 2046 ∧ E2 + (j + j1) = E + i + 53 := by
        clear hNn hNb b1 b2 hd hR hN hb hbs hx hy hlow hhigh hk hkb hbig
        exact ⟨(ex + 53 + 1023).toNat, by omega, by omega, by omega, by omega⟩
      obtain ⟨h5, r, h6, h7, h8⟩ := ld_case2 s fr E E2 i (j + j1) N hfr hNb hR hE1 h4 h2 h3
      exact ⟨E2, r, ld_set s fr E2 hfr h3 _ h1, h5, h6, h7, h8⟩
    clear hNb hNn hN hbs hb hd hbig hR hx hy
    have hY : s.toNat * 9223372036854775808 + fr < 18446744073709551616 := by clear b1 b2; omega
    clear hs1 hlow hhigh hj1 hE1 hE2 hfr
    generalize mkW s E fr = X at b1 b2 hy64 ⊢
    generalize s.toNat * 9223372036854775808 + fr = Y at b2 hc1 hc2 hY
    all_goals ((try refine zR2 ?_) <;> (repeat' (with_reducible first | refine And.intro ?_ ?_ | intro _)))
    all_goals (first | (exfalso; omega) | skip)
    · obtain ⟨E2, r, b3, hz, hr1, hr64, hr2⟩ := hc2 (k + -(j1 : Int) + ((E : Int) - 1023)) (by omega) (by assumption)
      all_goals ((try refine zR2 ?_) <;> (repeat' (with_reducible first | refine And.intro ?_ ?_ | intro _)))
      exact e_resT rfl zRes .nil fsub_nil ⟨r, rfl, hr64, hr2, rfl, rfl⟩
    · obtain ⟨E2, r, b3, hz, hr1, hr64, hr2⟩ := hc1 (k + -(j1 : Int) + ((E : Int) - 1023)) (by omega) (by assumption)
      all_goals ((try refine zR2 ?_) <;> (repeat' (with_reducible first | refine And.intro ?_ ?_ | intro _)))
      exact e_resT rfl zRes .nil fsub_nil ⟨r, rfl, hr64, hr2, rfl, rfl⟩
theorem Ldexp_spec (x : Nat) (a N k : Int) (i j : Nat) (h64 : x < 18446744073709551616) (hx : fv x = some a) (hN : a * (2 ^ i : Nat) = N * (2 ^ j : Nat)) (hk : k = (i : Int) - j) (hR : FRep N.natAbs) (hkb : -100000 ≤ k ∧ k ≤ 100000) :
    Spec Tryz.prog 215 [.float .f64 x, .int .i64 k] [] [] (PFl fun r => fv r = some N) := by
  refine enter Tryz.func215 Tryz.ntmps215 rfl (by kernel_rfl) zCon rfl fun G => ?_
  all_goals ((try refine zR2 ?_) <;> (repeat' (with_reducible first | refine And.intro ?_ ?_ | intro _)))
  refine l_call rfl zEvs rfl (ldexp_spec x a N k i j h64 hx hN hk hR hkb) zTake zFsub ?_
  rintro _ L' F' ⟨y, rfl, hy64, hp, rfl, rfl⟩
  all_goals ((try refine zR2 ?_) <;> (repeat' (with_reducible first | refine And.intro ?_ ?_ | intro _)))
  exact e_resT rfl zRes .nil fsub_nil ⟨y, rfl, hy64, hp, rfl, rfl⟩
end Go.Proofs.YtbllgmcpebifhaaGreatDoor.K
end
