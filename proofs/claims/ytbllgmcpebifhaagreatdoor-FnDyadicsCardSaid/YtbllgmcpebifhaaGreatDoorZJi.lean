/- The reference's exact numbers: sums and order. -/
import Derived.Test.YtbllgmcpebifhaaGreatDoorZJg
import Derived.Test.YtbllgmcpebifhaaGreatDoorZKm
import Derived.Test.YtbllgmcpebifhaaGreatDoorZMi
namespace Go.Proofs.YtbllgmcpebifhaaGreatDoor.K
open Go Go.RowKit Go.Lib
set_option linter.all false
set_option maxRecDepth 4000
set_option maxHeartbeats 1000000
set_option exponentiation.threshold 20000

/-- What l03Make makes of a whole number and a power. -/
def nv (v : Int) : Int := v.tdiv (2 ^ twos v.natAbs : Nat)
def ne (v e : Int) : Int := if v = 0 then 0 else e + twos v.natAbs
theorem nv_mul (v : Int) : nv v * (2 ^ twos v.natAbs : Nat) = v := by
  unfold nv
  by_cases h : v = 0
  · subst h; simp
  · have h1 := (twos_at (x := v.natAbs) (by omega)).2
    have h2 : 2 ^ twos v.natAbs ∣ v.natAbs := Nat.dvd_of_mod_eq_zero h1
    have h3 : ((2 ^ twos v.natAbs : Nat) : Int) ∣ v := Int.dvd_natAbs.1 (Int.natCast_dvd_natCast.2 h2)
    exact Int.tdiv_mul_cancel h3
theorem nv_nrm (v e : Int) : Nrm (nv v) (ne v e) := by
  by_cases h : v = 0
  · subst h; left; exact ⟨by simp [nv], by simp [ne]⟩
  · right
    have h1 := (twos_at (x := v.natAbs) (by omega)).1
    have h2 := congrArg Int.natAbs (nv_mul v)
    rw [natAbs_pw] at h2
    have h4 : v.natAbs / 2 ^ twos v.natAbs = (nv v).natAbs := by
      rw [← Nat.mul_div_cancel (nv v).natAbs (Nat.pow_pos (a := 2) (n := twos v.natAbs) (by omega)), h2]
    omega
theorem nv_zero {v : Int} : nv v = 0 ↔ v = 0 := by
  have h := nv_mul v
  constructor
  · intro h0; rw [h0, Int.zero_mul] at h; exact h.symm
  · intro h0; subst h0; simp [nv]
theorem nv_le (v : Int) : (nv v).natAbs ≤ v.natAbs := by
  have h2 := congrArg Int.natAbs (nv_mul v)
  rw [natAbs_pw] at h2
  have : (nv v).natAbs * 1 ≤ (nv v).natAbs * 2 ^ twos v.natAbs := Nat.mul_le_mul_left _ (Nat.pow_pos (by omega))
  omega
theorem twos_blen {x k : Nat} (hx : x < 2 ^ k) : twos x ≤ k := by
  by_cases h0 : x = 0
  · subst h0; rw [twos]; simp
  · have h1 := twos_le h0
    exact Nat.le_of_lt ((Nat.pow_lt_pow_iff_right (a := 2) (by omega)).1 (Nat.lt_of_le_of_lt h1 hx))
theorem limbs_two (k : Nat) {x : Nat} (h : x < 2 ^ (24 * k)) : (limbs x).length ≤ k := by
  refine limbs_len_le k x ?_
  rw [show (16777216 : Nat) = 2 ^ 24 by decide, ← Nat.pow_mul]; exact h

/-- A number at a scale. -/
def vat (v e K : Int) : Int := v * (2 ^ (e + K).toNat : Nat)
def SumIs (v1 e1 v2 e2 v e : Int) : Prop := Nrm v e ∧ ∀ K : Int, 0 ≤ e1 + K → 0 ≤ e2 + K → 0 ≤ e + K → vat v e K = vat v1 e1 K + vat v2 e2 K
theorem vat_nv (v e K : Int) (h : 0 ≤ e + K) : vat (nv v) (ne v e) K = vat v e K := by
  unfold vat
  by_cases h0 : v = 0
  · subst h0; simp [nv]
  · unfold ne
    rw [if_neg h0, show (e + twos v.natAbs + K).toNat = twos v.natAbs + (e + K).toNat by omega, pw_add, nv_mul]
theorem sum_left (v2 e1 e2 : Int) : SumIs 0 e1 v2 e2 (nv v2) (ne v2 e2) := ⟨nv_nrm _ _, fun K h1 h2 h3 => by rw [vat_nv _ _ _ h2]; simp [vat]⟩
theorem sum_right (v1 e1 e2 : Int) : SumIs v1 e1 0 e2 (nv v1) (ne v1 e1) := ⟨nv_nrm _ _, fun K h1 h2 h3 => by rw [vat_nv _ _ _ h1]; simp [vat]⟩
/-- The whole number of a sum, in units of the lesser power. -/
def sumV (v1 e1 v2 e2 : Int) : Int := v1 * (2 ^ (e1 - min e1 e2).toNat : Nat) + v2 * (2 ^ (e2 - min e1 e2).toNat : Nat)
theorem sum_both (v1 e1 v2 e2 : Int) : SumIs v1 e1 v2 e2 (nv (sumV v1 e1 v2 e2)) (ne (sumV v1 e1 v2 e2) (min e1 e2)) := ⟨nv_nrm _ _, fun K h1 h2 h3 => by
  rw [vat_nv _ _ _ (by omega)]
  unfold vat sumV
  rw [Int.add_mul, ← pw_add, ← pw_add]
  congr 3 <;> congr 1 <;> omega⟩
theorem SumIs.zero {v1 e1 v2 e2 v e : Int} (h : SumIs v1 e1 v2 e2 v e) : v = 0 ↔ ∀ K : Int, 0 ≤ e1 + K → 0 ≤ e2 + K → vat v1 e1 K + vat v2 e2 K = 0 := by
  constructor
  · intro h0 K h1 h2
    -- a greater scale
    have h3 := h.2 (K + (-(e + K)).toNat) (by omega) (by omega) (by omega)
    rw [h0] at h3
    have e1' : vat v1 e1 (K + (-(e + K)).toNat) = vat v1 e1 K * (2 ^ (-(e + K)).toNat : Nat) := by unfold vat; rw [← pw_add]; congr 2; congr 1; omega
    have e2' : vat v2 e2 (K + (-(e + K)).toNat) = vat v2 e2 K * (2 ^ (-(e + K)).toNat : Nat) := by unfold vat; rw [← pw_add]; congr 2; congr 1; omega
    rw [e1', e2', ← Int.add_mul] at h3
    have h4 : vat 0 e (K + (-(e + K)).toNat) = 0 := by simp [vat]
    rw [h4] at h3
    rcases Int.mul_eq_zero.1 h3.symm with h | h
    · exact h
    · exact absurd h (Int.ne_of_gt (pw_pos _))
  · intro h0
    have h1 := h.2 (e1.natAbs + e2.natAbs + e.natAbs) (by omega) (by omega) (by omega)
    rw [h0 _ (by omega) (by omega)] at h1
    unfold vat at h1
    rcases Int.mul_eq_zero.1 h1 with h | h
    · exact h
    · exact absurd h (Int.ne_of_gt (pw_pos _))

theorem pw_lt {x : Nat} {a b : Nat} (h : x < 2 ^ a) (k : Nat) (hb : a + k ≤ b) : x * 2 ^ k < 2 ^ b := by
  have h1 : x * 2 ^ k < 2 ^ a * 2 ^ k := Nat.mul_lt_mul_of_pos_right h (Nat.pow_pos (by omega))
  rw [← Nat.pow_add] at h1
  exact Nat.lt_of_lt_of_le h1 (Nat.pow_le_pow_right (by omega) hb)

def PAdd (v1 e1 v2 e2 : Int) (r : Value) (L' : List Own) (F' : List Fact) : Prop := ∃ v e, SumIs v1 e1 v2 e2 v e ∧ v.natAbs < 2 ^ 15000 ∧ PDw v e r L' F'
theorem l03Add_spec (u1 u2 : Value) (v1 e1 v2 e2 : Int) (hl1 : v1.natAbs < 2 ^ 4800) (hl2 : v2.natAbs < 2 ^ 4800) (he1 : -5000 ≤ e1 ∧ e1 ≤ 5000) (he2 : -5000 ≤ e2 ∧ e2 ≤ 5000) (hd : e1 - e2 ≤ 10000 ∧ e2 - e1 ≤ 10000) :
    Spec Tryz.prog 96 [vDyadic (sgn v1) u1 e1, vDyadic (sgn v2) u2 e2] [] [fList 1 (rInt .i64) u1 (limbs v1.natAbs), fList 1 (rInt .i64) u2 (limbs v2.natAbs)] (PAdd v1 e1 v2 e2) := by
  refine enter Tryz.func96 Tryz.ntmps96 rfl (by kernel_rfl) zCon rfl fun G => ?_
  refine c_isList (v := u1) zMem fun hs1 => ?_
  refine c_isList (v := u2) zMem fun hs2 => ?_
  have hm1 : (limbs v1.natAbs).length ≤ 200 := limbs_two 200 hl1
  have hm2 : (limbs v2.natAbs).length ≤ 200 := limbs_two 200 hl2
  have ht1 : twos v1.natAbs ≤ 4800 := twos_blen hl1
  have ht2 : twos v2.natAbs ≤ 4800 := twos_blen hl2
  have hn1 := Nat.lt_of_le_of_lt (nv_le v1) (Nat.lt_of_lt_of_le hl1 (Nat.pow_le_pow_right (n := 2) (by omega) (show 4800 ≤ 15000 by omega)))
  have hn2 := Nat.lt_of_le_of_lt (nv_le v2) (Nat.lt_of_lt_of_le hl2 (Nat.pow_le_pow_right (n := 2) (by omega) (show 4800 ≤ 15000 by omega)))
  all_goals ((try refine zR ?_) <;> (repeat' (with_reducible first | refine And.intro ?_ ?_ | intro _)))
  · rename_i hz
    have h0 : v1 = 0 := sgn_zero.1 hz
    refine l_call rfl zEvs rfl (l03Make_spec u2 v2 e2 (by omega) (by omega) (by omega)) zTake zFsub ?_
    rintro _ L' F' ⟨w', rfl, rfl, rfl⟩
    refine l_isList (.head _) fun hs' => ?_
    all_goals ((try refine zR ?_) <;> (repeat' (with_reducible first | refine And.intro ?_ ?_ | intro _)))
    exact e_resT rfl zRes .nil (fsub_cons (.head _) fsub_nil) ⟨nv v2, ne v2 e2, by rw [h0]; exact sum_left v2 e1 e2, hn2, w', rfl, rfl, rfl⟩
  · rename_i hz
    have h0 : v2 = 0 := sgn_zero.1 hz
    refine l_call rfl zEvs rfl (l03Make_spec u1 v1 e1 (by omega) (by omega) (by omega)) zTake zFsub ?_
    rintro _ L' F' ⟨w', rfl, rfl, rfl⟩
    refine l_isList (.head _) fun hs' => ?_
    all_goals ((try refine zR ?_) <;> (repeat' (with_reducible first | refine And.intro ?_ ?_ | intro _)))
    exact e_resT rfl zRes .nil (fsub_cons (.head _) fsub_nil) ⟨nv v1, ne v1 e1, by rw [h0]; exact sum_right v1 e1 e2, hn1, w', rfl, rfl, rfl⟩
  · refine l_min2 rfl rfl rfl rfl ?_
    all_goals ((try refine zR ?_) <;> (repeat' (with_reducible first | refine And.intro ?_ ?_ | intro _)))
    rename_i bA bB bC _ _
    refine c_draw ([16, 17], []) [.box bA [.int .i64 (sgn v1), u1, .int .i64 e1] 48, .box bB [.int .i64 (sgn v2), u2, .int .i64 e2] 48] [0, 1, 2, 3, 4, 5, 7, 8, 9, 10, 11, 12, 15, 6, 13, 14, 16, 17] (by kernel_rfl) (by kernel_rfl) ?_
    all_goals ((try refine zD ?_) <;> (repeat' (with_reducible first | refine And.intro ?_ ?_ | intro _)))
    have q1 : (e1 - min e1 e2).toNat ≤ 10000 := by omega
    have q2 : (e2 - min e1 e2).toNat ≤ 10000 := by omega
    have hsl1 := l02Left_spec u1 v1 (e1 - min e1 e2).toNat (by omega) q1
    rw [Int.toNat_of_nonneg (show 0 ≤ e1 - min e1 e2 by omega)] at hsl1
    have hsl2 := l02Left_spec u2 v2 (e2 - min e1 e2).toNat (by omega) q2
    rw [Int.toNat_of_nonneg (show 0 ≤ e2 - min e1 e2 by omega)] at hsl2
    have hb1 : (v1 * (2 ^ (e1 - min e1 e2).toNat : Nat)).natAbs < 2 ^ 14800 := by rw [natAbs_pw]; exact pw_lt hl1 _ (by omega)
    have hb2 : (v2 * (2 ^ (e2 - min e1 e2).toNat : Nat)).natAbs < 2 ^ 14800 := by rw [natAbs_pw]; exact pw_lt hl2 _ (by omega)
    refine l_call rfl zEvs rfl hsl1 zTake zFsub ?_
    rintro _ L' F' ⟨w1, rfl, rfl, rfl⟩
    refine l_isList (.head _) fun hsw1 => ?_
    all_goals ((try refine zD ?_) <;> (repeat' (with_reducible first | refine And.intro ?_ ?_ | intro _)))
    refine l_call rfl zEvs rfl hsl2 zTake zFsub ?_
    rintro _ L' F' ⟨w2, rfl, rfl, rfl⟩
    refine l_isList (.head _) fun hsw2 => ?_
    all_goals ((try refine zD ?_) <;> (repeat' (with_reducible first | refine And.intro ?_ ?_ | intro _)))
    have hg1 : (limbs (v1 * (2 ^ (e1 - min e1 e2).toNat : Nat)).natAbs).length ≤ 620 := limbs_two 620 (Nat.lt_of_lt_of_le hb1 (Nat.pow_le_pow_right (by omega) (by omega)))
    have hg2 : (limbs (v2 * (2 ^ (e2 - min e1 e2).toNat : Nat)).natAbs).length ≤ 620 := limbs_two 620 (Nat.lt_of_lt_of_le hb2 (Nat.pow_le_pow_right (by omega) (by omega)))
    refine l_call rfl zEvs rfl (l02Add_spec w1 w2 _ _ 620 hg1 hg2 (by omega)) zTake zFsub ?_
    rintro _ L' F' ⟨w3, rfl, rfl, rfl⟩
    refine l_isList (.head _) fun hsw3 => ?_
    have hs3 : (sumV v1 e1 v2 e2).natAbs < 2 ^ 14801 := by
      have : (sumV v1 e1 v2 e2).natAbs ≤ (v1 * (2 ^ (e1 - min e1 e2).toNat : Nat)).natAbs + (v2 * (2 ^ (e2 - min e1 e2).toNat : Nat)).natAbs := Int.natAbs_add_le _ _
      rw [Nat.pow_succ]
      generalize (2 : Nat) ^ 14800 = W at hb1 hb2 ⊢
      omega
    have hg3 : (limbs (sumV v1 e1 v2 e2).natAbs).length ≤ 620 := limbs_two 620 (Nat.lt_of_lt_of_le hs3 (Nat.pow_le_pow_right (by omega) (by omega)))
    have hg4 := twos_blen hs3
    have hg5 := Nat.lt_of_le_of_lt (nv_le (sumV v1 e1 v2 e2)) (Nat.lt_of_lt_of_le hs3 (Nat.pow_le_pow_right (n := 2) (by omega) (show 14801 ≤ 15000 by omega)))
    clear hs3 hb1 hb2 hl1 hl2 hn1 hn2
    change RunL _ _ _ _ _ _ ((43, vWhole (sgn (sumV v1 e1 v2 e2)) w3) :: _) _ (fList 1 (rInt .i64) w3 (limbs (sumV v1 e1 v2 e2).natAbs) :: _)
    all_goals ((try refine zD ?_) <;> (repeat' (with_reducible first | refine And.intro ?_ ?_ | intro _)))
    refine l_call rfl zEvs rfl (l03Make_spec w3 (sumV v1 e1 v2 e2) (min e1 e2) (by omega) (by omega) (by omega)) zTake zFsub ?_
    rintro _ L' F' ⟨w', rfl, rfl, rfl⟩
    refine l_isList (.head _) fun hs' => ?_
    all_goals ((try refine zD ?_) <;> (repeat' (with_reducible first | refine And.intro ?_ ?_ | intro _)))
    exact e_resT rfl zRes .nil (fsub_cons zMem fsub_nil) ⟨nv (sumV v1 e1 v2 e2), ne (sumV v1 e1 v2 e2) (min e1 e2), sum_both v1 e1 v2 e2, hg5, w', rfl, rfl, rfl⟩

theorem l03Sub_spec (u1 u2 : Value) (v1 e1 v2 e2 : Int) (hl1 : v1.natAbs < 2 ^ 4800) (hl2 : v2.natAbs < 2 ^ 4800) (he1 : -5000 ≤ e1 ∧ e1 ≤ 5000) (he2 : -5000 ≤ e2 ∧ e2 ≤ 5000) (hd : e1 - e2 ≤ 10000 ∧ e2 - e1 ≤ 10000) :
    Spec Tryz.prog 173 [vDyadic (sgn v1) u1 e1, vDyadic (sgn v2) u2 e2] [] [fList 1 (rInt .i64) u1 (limbs v1.natAbs), fList 1 (rInt .i64) u2 (limbs v2.natAbs)] (PAdd v1 e1 (-v2) e2) := by
  refine enter Tryz.func173 Tryz.ntmps173 rfl (by kernel_rfl) zCon rfl fun G => ?_
  refine c_isList (v := u1) zMem fun hs1 => ?_
  refine c_isList (v := u2) zMem fun hs2 => ?_
  have hm2 : (limbs v2.natAbs).length ≤ 200 := limbs_two 200 hl2
  have hl3 : (-v2).natAbs < 2 ^ 4800 := by rw [Int.natAbs_neg]; exact hl2
  all_goals ((try refine zR ?_) <;> (repeat' (with_reducible first | refine And.intro ?_ ?_ | intro _)))
  rename_i bA bB bC
  refine c_draw ([3, 4], []) [.box bA [.int .i64 (sgn v1), u1, .int .i64 e1] 48, .box bB [.int .i64 (sgn v2), u2, .int .i64 e2] 48] [0, 1, 2, 3, 4] (by kernel_rfl) (by kernel_rfl) ?_
  all_goals ((try refine zD ?_) <;> (repeat' (with_reducible first | refine And.intro ?_ ?_ | intro _)))
  refine l_call rfl zEvs rfl (l03Neg_spec u2 v2 e2 (by omega)) zTake zFsub ?_
  rintro _ L' F' ⟨w1, rfl, rfl, rfl⟩
  refine l_isList (.head _) fun hsw1 => ?_
  all_goals ((try refine zD ?_) <;> (repeat' (with_reducible first | refine And.intro ?_ ?_ | intro _)))
  refine l_call rfl zEvs rfl (l03Add_spec u1 w1 v1 e1 (-v2) e2 hl1 hl3 he1 he2 hd) zTake zFsub ?_
  rintro _ L' F' ⟨v, e, h1, h2, w', rfl, rfl, rfl⟩
  refine l_isList (.head _) fun hs' => ?_
  all_goals ((try refine zD ?_) <;> (repeat' (with_reducible first | refine And.intro ?_ ?_ | intro _)))
  exact e_resT rfl zRes .nil (fsub_cons zMem fsub_nil) ⟨v, e, h1, h2, w', rfl, rfl, rfl⟩

def PCmp (v1 e1 v2 e2 : Int) (r : Value) (L' : List Own) (F' : List Fact) : Prop := ∃ v e, SumIs v1 e1 (-v2) e2 v e ∧ r = .int .i64 (sgn v) ∧ L' = [] ∧ F' = []
theorem l03Compare_spec (u1 u2 : Value) (v1 e1 v2 e2 : Int) (hl1 : v1.natAbs < 2 ^ 4800) (hl2 : v2.natAbs < 2 ^ 4800) (he1 : -5000 ≤ e1 ∧ e1 ≤ 5000) (he2 : -5000 ≤ e2 ∧ e2 ≤ 5000) (hd : e1 - e2 ≤ 10000 ∧ e2 - e1 ≤ 10000) :
    Spec Tryz.prog 99 [vDyadic (sgn v1) u1 e1, vDyadic (sgn v2) u2 e2] [] [fList 1 (rInt .i64) u1 (limbs v1.natAbs), fList 1 (rInt .i64) u2 (limbs v2.natAbs)] (PCmp v1 e1 v2 e2) := by
  refine enter Tryz.func99 Tryz.ntmps99 rfl (by kernel_rfl) zCon rfl fun G => ?_
  refine c_isList (v := u1) zMem fun hs1 => ?_
  refine c_isList (v := u2) zMem fun hs2 => ?_
  all_goals ((try refine zR ?_) <;> (repeat' (with_reducible first | refine And.intro ?_ ?_ | intro _)))
  refine l_call rfl zEvs rfl (l03Sub_spec u1 u2 v1 e1 v2 e2 hl1 hl2 he1 he2 hd) zTake zFsub ?_
  rintro _ L' F' ⟨v, e, h1, h2, w', rfl, rfl, rfl⟩
  refine l_fieldA rfl rfl rfl inferInstance inferInstance rfl rfl ?_
  refine l_fieldV rfl rfl rfl inferInstance rfl rfl rfl ?_
  all_goals ((try refine zR ?_) <;> (repeat' (with_reducible first | refine And.intro ?_ ?_ | intro _)))
  exact e_resT rfl zRes .nil fsub_nil ⟨v, e, h1, rfl, rfl, rfl⟩
end Go.Proofs.YtbllgmcpebifhaaGreatDoor.K
