/- The reference's moderate numbers. -/
import Derived.Test.YtbllgmcpebifhaaGreatDoorZSp
import Derived.Test.YtbllgmcpebifhaaGreatDoorZLy
namespace Go.Proofs.YtbllgmcpebifhaaGreatDoor.K
open Go Go.RowKit Go.Lib Ieee
set_option exponentiation.threshold 20000
set_option linter.all false
set_option maxRecDepth 10000
set_option maxHeartbeats 1000000

theorem floor_cut (v : Int) (k : Nat) : v / (2 ^ k : Nat) = if v < 0 ∧ twos v.natAbs < k then v.tdiv (2 ^ k : Nat) - 1 else v.tdiv (2 ^ k : Nat) := by
  have hp : 0 < 2 ^ k := Nat.pow_pos (by omega)
  have hpi : (0 : Int) < ((2 ^ k : Nat) : Int) := by exact_mod_cast hp
  by_cases hv : v < 0
  · have h0 : v.natAbs ≠ 0 := by omega
    have ht := twos_at h0
    have e : v = -(v.natAbs : Int) := by omega
    by_cases hk : twos v.natAbs < k
    · rw [if_pos ⟨hv, hk⟩]
      have hnd : ¬ v.natAbs % 2 ^ k = 0 := fun hm => by
        obtain ⟨m, hm⟩ := Nat.dvd_of_mod_eq_zero hm
        generalize twos v.natAbs = t at *
        generalize v.natAbs = n at *
        have h2 : 2 ^ k = 2 ^ (k - t - 1) * 2 * 2 ^ t := by rw [← Nat.pow_succ, ← Nat.pow_add]; congr 1; omega
        rw [h2] at hm
        have h4 : n = 2 * (2 ^ (k - t - 1) * m) * 2 ^ t := by
          rw [hm]
          simp only [Nat.mul_comm, Nat.mul_assoc, Nat.mul_left_comm]
        have h1 := ht.1
        rw [h4, Nat.mul_div_cancel _ (Nat.pow_pos (by omega))] at h1
        omega
      generalize v.natAbs = n at *
      subst e
      rw [Int.neg_tdiv, ← Int.ofNat_tdiv]
      have h1 := Nat.div_add_mod n (2 ^ k)
      have h2 := Nat.mod_lt n hp
      generalize 2 ^ k = g at *
      have e0 : -(n : Int) = -(((n / g : Nat) : Int) + 1) * g + ((g - n % g : Nat) : Int) := by
        have h4 : ((g * (n / g) + n % g : Nat) : Int) = n := congrArg Nat.cast h1
        rw [Int.natCast_add, Int.natCast_mul] at h4
        rw [Int.neg_mul, Int.add_mul, Int.mul_comm _ (g : Int)]
        generalize (g : Int) * ((n / g : Nat) : Int) = t at *
        omega
      rw [e0, Int.add_comm, Int.add_mul_ediv_right _ _ (by omega), Int.ediv_eq_zero_of_lt (by omega) (by omega), Int.zero_add]
      omega
    · rw [if_neg (fun h => hk h.2)]
      have hd : ((2 ^ k : Nat) : Int) ∣ v := by
        have h1 : 2 ^ twos v.natAbs ∣ v.natAbs := Nat.dvd_of_mod_eq_zero ht.2
        have h2 : 2 ^ k ∣ 2 ^ twos v.natAbs := Nat.pow_dvd_pow 2 (by omega)
        exact Int.dvd_natAbs.1 (Int.natCast_dvd_natCast.2 (Nat.dvd_trans h2 h1))
      obtain ⟨q, hq⟩ := hd
      rw [hq, Int.mul_ediv_cancel_left _ (by omega), Int.mul_tdiv_cancel_left _ (by omega)]
  · rw [if_neg (fun h => hv h.1), Int.tdiv_eq_ediv_of_nonneg (by omega)]
theorem vat_neg (v e K : Int) : vat (-v) e K = -vat v e K := by unfold vat; rw [Int.neg_mul]
theorem SumIs.uniq {v1 e1 v2 e2 v e w f : Int} (h : SumIs v1 e1 v2 e2 v e) (k : SumIs v1 e1 v2 e2 w f) : v = w ∧ e = f := by
  obtain ⟨K, h1, h2, h3, h4⟩ : ∃ K : Int, 0 ≤ e1 + K ∧ 0 ≤ e2 + K ∧ 0 ≤ e + K ∧ 0 ≤ f + K := ⟨(e1.natAbs : Int) + e2.natAbs + e.natAbs + f.natAbs, by omega, by omega, by omega, by omega⟩
  have a := (h.2 K h1 h2 h3).trans (k.2 K h1 h2 h4).symm
  unfold vat at a
  rcases h.1 with ⟨rfl, rfl⟩ | hv
  · rw [Int.zero_mul] at a
    have hw : w = 0 := by
      rcases Int.mul_eq_zero.1 a.symm with h | h
      · exact h
      · exact absurd h (Int.ne_of_gt (pw_pos _))
    rcases k.1 with ⟨_, rfl⟩ | hw'
    · exact ⟨hw.symm, rfl⟩
    · omega
  · rcases k.1 with ⟨rfl, rfl⟩ | hw
    · rw [Int.zero_mul] at a
      rcases Int.mul_eq_zero.1 a with h | h
      · omega
      · exact absurd h (Int.ne_of_gt (pw_pos _))
    · have := odd_pow a hv hw
      exact ⟨this.1, by omega⟩
theorem sgn_pw (x : Int) (n : Nat) : sgn (x * (2 ^ n : Nat)) = sgn x := by
  have hp : (0 : Int) < ((2 ^ n : Nat) : Int) := pw_pos n
  have h : (x < 0 → x * ((2 ^ n : Nat) : Int) < 0) ∧ (x = 0 → x * ((2 ^ n : Nat) : Int) = 0) ∧ (0 < x → 0 < x * ((2 ^ n : Nat) : Int)) :=
    ⟨fun h => Int.mul_neg_of_neg_of_pos h hp, fun h => by rw [h, Int.zero_mul], fun h => Int.mul_pos h hp⟩
  generalize x * ((2 ^ n : Nat) : Int) = y at *
  unfold sgn
  split <;> split <;> (try split) <;> (try split) <;> omega
/-- The floor to multiples of 2^-60, and what is left over. -/
theorem low_rest {v e : Int} (he : e < -60) : SumIs v e (-(nv (v / (2 ^ (-60 - e).toNat : Nat)))) (ne (v / (2 ^ (-60 - e).toNat : Nat)) (-60)) (nv (v % (2 ^ (-60 - e).toNat : Nat))) (ne (v % (2 ^ (-60 - e).toNat : Nat)) e) := by
  refine ⟨nv_nrm _ _, fun K h1 h2 h3 => ?_⟩
  rw [vat_nv _ _ _ h1, vat_neg, vat_nv _ _ _ (by omega)]
  unfold vat
  have e1 : (-60 + K).toNat = (-60 - e).toNat + (e + K).toNat := by omega
  have h := Int.emod_add_mul_ediv v (2 ^ (-60 - e).toNat : Nat)
  rw [e1, pw_add, ← Int.neg_mul, ← Int.add_mul]
  congr 1
  rw [Int.mul_comm] at h
  generalize v / (2 ^ (-60 - e).toNat : Nat) * ((2 ^ (-60 - e).toNat : Nat) : Int) = t at *
  omega
/-- What is left over, held against a half. -/
theorem half_cmp {r e s k : Int} (he : e < -60) (h : SumIs (nv r) (ne r e) (-1) (-61) s k) : sgn s = sgn (2 * r - (2 ^ (-60 - e).toNat : Nat)) := by
  obtain ⟨K, h1, h2, h3, h4⟩ : ∃ K : Int, 0 ≤ ne r e + K ∧ 0 ≤ -61 + K ∧ 0 ≤ k + K ∧ 0 ≤ e + K := ⟨((ne r e).natAbs : Int) + 61 + k.natAbs + e.natAbs, by omega, by omega, by omega, by omega⟩
  have a := h.2 K h1 h2 h3
  rw [vat_nv _ _ _ h4] at a
  unfold vat at a
  have e1 : (-61 + K).toNat = (-60 - e).toNat - 1 + (e + K).toNat := by omega
  rw [e1, pw_add, ← Int.add_mul] at a
  rw [← sgn_pw s (k + K).toNat, a, sgn_pw]
  have e2 : (2 : Nat) ^ (-60 - e).toNat = 2 ^ ((-60 - e).toNat - 1) * 2 := by rw [← Nat.pow_succ]; congr 1; omega
  rw [e2]
  generalize 2 ^ ((-60 - e).toNat - 1) = g
  unfold sgn
  split <;> split <;> (try split) <;> (try split) <;> omega
theorem low_add (fl : Int) : SumIs (nv fl) (ne fl (-60)) 1 (-60) (nv (fl + 1)) (ne (fl + 1) (-60)) := by
  refine ⟨nv_nrm _ _, fun K h1 h2 h3 => ?_⟩
  rw [vat_nv _ _ _ h2, vat_nv _ _ _ h2]
  unfold vat
  rw [← Int.add_mul]
theorem odd_low (fl : Int) : (sgn (nv fl) ≠ 0 ∧ ne fl (-60) = -60) ↔ fl % 2 = 1 := by
  constructor
  · rintro ⟨h1, h2⟩
    have h0 : fl ≠ 0 := fun h => h1 (sgn_zero.2 (nv_zero.2 h))
    unfold ne at h2
    rw [if_neg h0] at h2
    have ht := (twos_at (x := fl.natAbs) (by omega)).1
    rw [show twos fl.natAbs = 0 by omega, Nat.pow_zero, Nat.div_one] at ht
    omega
  · intro h
    have h0 : fl ≠ 0 := by omega
    refine ⟨fun hs => h0 (nv_zero.1 (sgn_zero.1 hs)), ?_⟩
    unfold ne
    rw [if_neg h0]
    have : twos fl.natAbs = 0 := by
      rw [twos]
      rw [dif_neg (by omega), if_pos (by omega)]
    omega
theorem l02Sub_spec (ua ub : Value) (va vb : Int) (M : Nat) (hla : (limbs va.natAbs).length ≤ M) (hlb : (limbs vb.natAbs).length ≤ M) (hM : M ≤ 980) : Spec Tryz.prog 179 [vWhole (sgn va) ua, vWhole (sgn vb) ub] [] [fList 1 (rInt .i64) ua (limbs va.natAbs), fList 1 (rInt .i64) ub (limbs vb.natAbs)] (PWh (va - vb)) := by
  refine enter Tryz.func179 Tryz.ntmps179 rfl (by kernel_rfl) zCon rfl fun G => ?_
  refine c_isList (v := ua) zMem fun hs1 => ?_
  refine c_isList (v := ub) zMem fun hs2 => ?_
  all_goals ((try refine zR2 ?_) <;> (repeat' (with_reducible first | refine And.intro ?_ ?_ | intro _)))
  rename_i bA bB bC
  refine c_draw ([3, 4], []) [.box bA [.int .i64 (sgn va), ua] 46, .box bB [.int .i64 (sgn vb), ub] 46] [0, 1, 2, 3, 4] (by kernel_rfl) (by kernel_rfl) ?_
  all_goals ((try refine zD2 ?_) <;> (repeat' (with_reducible first | refine And.intro ?_ ?_ | intro _)))
  refine l_call rfl zEvs rfl (l02Neg_spec ub vb (by omega)) zTake zFsub ?_
  rintro _ L' F' ⟨w1, rfl, rfl, rfl⟩
  refine l_isList (.head _) fun hsw1 => ?_
  all_goals ((try refine zD2 ?_) <;> (repeat' (with_reducible first | refine And.intro ?_ ?_ | intro _)))
  refine l_call rfl zEvs rfl (l02Add_spec ua w1 va (-vb) M hla (by rw [Int.natAbs_neg]; exact hlb) hM) zTake zFsub ?_
  rintro _ L' F' ⟨w', rfl, rfl, rfl⟩
  refine l_isList (.head _) fun hs' => ?_
  all_goals ((try refine zD2 ?_) <;> (repeat' (with_reducible first | refine And.intro ?_ ?_ | intro _)))
  exact e_resT rfl zRes .nil (fsub_cons zMem fsub_nil) ⟨w', rfl, rfl, rfl⟩
theorem l02ShiftDown_spec (u : Value) (v : Int) (k : Nat) (q : Int) (hqk : q = -(k : Int)) (hl : v.natAbs < 2 ^ 4800) (hk : 1 ≤ k ∧ k ≤ 8000) : Spec Tryz.prog 183 [vWhole (sgn v) u, .int .i64 q] [] [fList 1 (rInt .i64) u (limbs v.natAbs)] (PWh (v / (2 ^ k : Nat))) := by
  have hm : (limbs v.natAbs).length ≤ 200 := limbs_two 200 hl
  have htw : twos v.natAbs ≤ 4800 := twos_blen hl
  have hc := l02Cut_spec u v k (by omega) (by omega)
  rw [show (k : Int) = 0 - q by omega] at hc
  have hq : (limbs (v.tdiv (2 ^ k : Nat)).natAbs).length ≤ 200 := limbs_two 200 (Nat.lt_of_le_of_lt (by rw [tdiv_abs]; exact Nat.div_le_self _ _) hl)
  have hfl := floor_cut v k
  have ho1 : (limbs (1 : Int).natAbs).length ≤ 200 := limbs_two 200 (Nat.one_lt_two_pow (by omega))
  have hst : ∀ s, sgn v = s → (s < 0 ↔ v < 0) := fun s hs => by rw [← hs]; unfold sgn; split <;> (try split) <;> omega
  clear hl
  obtain ⟨s, hs⟩ : ∃ s, sgn v = s := ⟨_, rfl⟩
  have hsv := hst s hs
  rw [hs] at hc ⊢
  by_cases hv : v < 0
  · have h0 : v.natAbs ≠ 0 := by omega
    have ht := l02Twos_spec s u v.natAbs h0 (by omega) (by omega)
    refine enter Tryz.func183 Tryz.ntmps183 rfl (by kernel_rfl) zCon rfl fun G => ?_
    refine c_isList (v := u) zMem fun hs1 => ?_
    all_goals ((try refine zR2 ?_) <;> (repeat' (with_reducible first | refine And.intro ?_ ?_ | intro _)))
    all_goals (first | (exfalso; omega) | skip)
    refine l_call rfl zEvs rfl hc zTake zFsub ?_
    rintro _ L' F' ⟨w1, rfl, rfl, rfl⟩
    refine l_isList (.head _) fun hsw1 => ?_
    all_goals (((try refine zR2 ?_) <;> (repeat' (with_reducible first | refine And.intro ?_ ?_ | intro _))) <;> (repeat' ((first | ((with_reducible apply l_callP); exact rfl; exact zEvs; exact rfl; (with_reducible apply ht); (case hF => exact zFsub); (try any_goals (refine propId ?_; omega)))) <;> ((try refine zR2 ?_) <;> (repeat' (with_reducible first | refine And.intro ?_ ?_ | intro _))))))
    all_goals (first | (exfalso; omega) | skip)
    · rename_i bO h1 hlt
      rw [hfl, if_pos ⟨hv, by omega⟩]
      refine c_draw ([2, 3], []) [.box bO [.int .i64 (sgn (v.tdiv (2 ^ k : Nat))), w1] 46] [0, 1, 2, 3] (by kernel_rfl) (by kernel_rfl) ?_
      all_goals ((try refine zD2 ?_) <;> (repeat' (with_reducible first | refine And.intro ?_ ?_ | intro _)))
      refine l_call rfl zEvs rfl (l02Of_spec 1 (by decide)) zTake zFsub ?_
      rintro _ L' F' ⟨w2, rfl, rfl, rfl⟩
      refine l_isList (.head _) fun hsw2 => ?_
      all_goals ((try refine zD2 ?_) <;> (repeat' (with_reducible first | refine And.intro ?_ ?_ | intro _)))
      refine l_call rfl zEvs rfl (l02Sub_spec w1 w2 (v.tdiv (2 ^ k : Nat)) 1 200 hq ho1 (by omega)) zTake zFsub ?_
      rintro _ L' F' ⟨w', rfl, rfl, rfl⟩
      refine l_isList (.head _) fun hs' => ?_
      all_goals ((try refine zD2 ?_) <;> (repeat' (with_reducible first | refine And.intro ?_ ?_ | intro _)))
      exact e_resT rfl zRes .nil (fsub_cons zMem fsub_nil) ⟨w', rfl, rfl, rfl⟩
    · rw [hfl, if_neg (fun h => by omega)]
      exact e_resT rfl zRes .nil (fsub_cons zMem fsub_nil) ⟨w1, rfl, rfl, rfl⟩
  · rw [hfl, if_neg (fun h => hv h.1)]
    refine enter Tryz.func183 Tryz.ntmps183 rfl (by kernel_rfl) zCon rfl fun G => ?_
    refine c_isList (v := u) zMem fun hs1 => ?_
    all_goals ((try refine zR2 ?_) <;> (repeat' (with_reducible first | refine And.intro ?_ ?_ | intro _)))
    all_goals (first | (exfalso; omega) | skip)
    refine l_call rfl zEvs rfl hc zTake zFsub ?_
    rintro _ L' F' ⟨w1, rfl, rfl, rfl⟩
    refine l_isList (.head _) fun hsw1 => ?_
    all_goals ((try refine zR2 ?_) <;> (repeat' (with_reducible first | refine And.intro ?_ ?_ | intro _)))
    all_goals (first | (exfalso; omega) | skip)
    exact e_resT rfl zRes .nil (fsub_cons zMem fsub_nil) ⟨w1, rfl, rfl, rfl⟩
/-- The floor to multiples of 2^-k. -/
def flV (v e k : Int) : Int := if -k ≤ e then v else v / (2 ^ (-k - e).toNat : Nat)
def flE (e k : Int) : Int := if -k ≤ e then e else -k
theorem l03Floor_spec (u : Value) (v e k : Int) (hl : v.natAbs < 2 ^ 4800) (he : -5000 ≤ e ∧ e ≤ 5000) (hk : -2000 ≤ k ∧ k ≤ 2000) : Spec Tryz.prog 112 [vDyadic (sgn v) u e, .int .i64 k] [] [fList 1 (rInt .i64) u (limbs v.natAbs)] (PDw (nv (flV v e k)) (ne (flV v e k) (flE e k))) := by
  have hm : (limbs v.natAbs).length ≤ 200 := limbs_two 200 hl
  have htw : twos v.natAbs ≤ 4800 := twos_blen hl
  by_cases hke : -k ≤ e
  · have hM := l03Make_spec u v e (by omega) (by omega) (by omega)
    have e1 : flV v e k = v := by unfold flV; rw [if_pos hke]
    have e2 : flE e k = e := by unfold flE; rw [if_pos hke]
    rw [e1, e2]
    clear hl
    refine enter Tryz.func112 Tryz.ntmps112 rfl (by kernel_rfl) zCon rfl fun G => ?_
    refine c_isList (v := u) zMem fun hs1 => ?_
    all_goals ((try refine zR2 ?_) <;> (repeat' (with_reducible first | refine And.intro ?_ ?_ | intro _)))
    all_goals (first | (exfalso; omega) | skip)
    refine l_call rfl zEvs rfl hM zTake zFsub ?_
    rintro _ L' F' ⟨w1, rfl, rfl, rfl⟩
    refine l_isList (.head _) fun hsw1 => ?_
    all_goals ((try refine zR2 ?_) <;> (repeat' (with_reducible first | refine And.intro ?_ ?_ | intro _)))
    exact e_resT rfl zRes .nil (fsub_cons zMem fsub_nil) ⟨w1, rfl, rfl, rfl⟩
  · have e1 : flV v e k = v / (2 ^ (-k - e).toNat : Nat) := by unfold flV; rw [if_neg hke]
    have e2 : flE e k = -k := by unfold flE; rw [if_neg hke]
    have hS := l02ShiftDown_spec u v (-k - e).toNat (e + k) (by omega) hl (by omega)
    rw [← e1] at hS
    have hq : (flV v e k).natAbs < 2 ^ 4800 := by
      rw [e1]
      exact Nat.lt_of_le_of_lt (Int.natAbs_ediv_le_natAbs _ _) hl
    have hm2 : (limbs (flV v e k).natAbs).length ≤ 200 := limbs_two 200 hq
    have ht2 : twos (flV v e k).natAbs ≤ 4800 := twos_blen hq
    rw [e2, show -k = 0 - k by omega]
    generalize flV v e k = f at *
    clear hl hq
    refine enter Tryz.func112 Tryz.ntmps112 rfl (by kernel_rfl) zCon rfl fun G => ?_
    refine c_isList (v := u) zMem fun hs1 => ?_
    all_goals ((try refine zR2 ?_) <;> (repeat' (with_reducible first | refine And.intro ?_ ?_ | intro _)))
    all_goals (first | (exfalso; omega) | skip)
    refine l_call rfl zEvs rfl hS zTake zFsub ?_
    rintro _ L' F' ⟨w1, rfl, rfl, rfl⟩
    refine l_isList (.head _) fun hsw1 => ?_
    all_goals ((try refine zR2 ?_) <;> (repeat' (with_reducible first | refine And.intro ?_ ?_ | intro _)))
    refine l_call rfl zEvs rfl (l03Make_spec w1 f (0 - k) (by omega) (by omega) (by omega)) zTake zFsub ?_
    rintro _ L' F' ⟨w2, rfl, rfl, rfl⟩
    refine l_isList (.head _) fun hsw2 => ?_
    all_goals ((try refine zR2 ?_) <;> (repeat' (with_reducible first | refine And.intro ?_ ?_ | intro _)))
    exact e_resT rfl zRes .nil (fsub_cons zMem fsub_nil) ⟨w2, rfl, rfl, rfl⟩
theorem add_zero {x : Nat} {a : Int} (hx : fv x = some a) : fv (fop .add x 0) = some a ∧ fop .add x 0 < 18446744073709551616 ∧ (a = 0 → fop .add x 0 = 0) := by
  obtain ⟨r, h1, h2⟩ := add_exact hx fv_zero (by rw [Int.add_zero]; exact fv_rep hx)
  have e : fop .add x 0 = (double.add x 0).getD NAN := rfl
  have e1 : fop .add x 0 = r := by rw [e, h1]; rfl
  rw [Int.add_zero] at h2
  have h64 : r < 18446744073709551616 := fb_lt (op := .add) (x := x) (y := 0) h1
  refine ⟨by rw [e1]; exact h2, by rw [e1]; exact h64, fun h0 => ?_⟩
  subst h0
  obtain ⟨s, m, p, hr, hv, hp, _⟩ := fv_num hx
  have hm : m = 0 := by
    have h3 := congrArg Int.natAbs hv
    rw [signed_abs] at h3
    rcases Nat.mul_eq_zero.1 h3.symm with h | h
    · exact h
    · exact absurd h (Nat.pos_iff_ne_zero.1 (Nat.pow_pos (by omega)))
  subst hm
  have e2 : fop .add x 0 = (((double.read x).sum (double.read 0)).map double.write).getD NAN := rfl
  rw [e2, hr, read_zero]
  have e3 : Ieee.signed s 0 (p - min p (-1074)).toNat = 0 := by unfold Ieee.signed; cases s <;> simp
  have e4 : Ieee.signed false 0 (-1074 - min p (-1074)).toNat = 0 := by unfold Ieee.signed; simp
  unfold Datum.sum
  simp only [e3, e4]
  cases s <;> simp [Format.write, Format.nearest, Format.word]
noncomputable def ptV (x : Nat) : Value := if fitB x = true then .tuple #[.float .f64 (modW x), .bool true] else .tuple #[.float .f64 0, .bool false]
/-- The rounding ends with a number that the doubles have. -/
theorem round_fin {a q : Int} (hR : FRep a.natAbs) (hb : a.natAbs ≤ 2 ^ 1104) (hq : mp a = q * (2 ^ 1014 : Nat)) : q.natAbs < 2 ^ 91 ∧ VEq (mp a) (nv q) (ne q (-60)) ∧ IsD (sgn (nv q)) (ne q (-60)) (limbs (nv q).natAbs) := by
  have h1 : q.natAbs < 2 ^ 91 := by
    have h2 := mp_le hb
    rw [hq, natAbs_pw, show 1104 = 90 + 1014 from rfl, Nat.pow_add] at h2
    exact Nat.lt_of_le_of_lt (Nat.le_of_mul_le_mul_right h2 (Nat.pow_pos (by omega))) (Nat.pow_lt_pow_right (by omega) (by omega))
  have h3 : VEq (mp a) q (-60) := ⟨0, 1014, by rw [hq]; simp, by omega⟩
  have h4 : VEq (mp a) (nv q) (ne q (-60)) := by
    by_cases h0 : q = 0
    · subst h0
      have := h3.zero
      rw [this]
      have e1 : nv 0 = 0 := by simp [nv]
      rw [e1]; exact VEq.of_zero _
    · have := h3.shift (nv_mul q)
      unfold ne
      rw [if_neg h0]; exact this
  refine ⟨h1, h4, nrm_isD (nv_nrm q (-60)) (Nat.lt_of_le_of_lt (nv_le q) (Nat.lt_trans h1 (Nat.pow_lt_pow_right (by omega) (by omega)))) ?_⟩
  have := twos_blen h1
  unfold ne
  split <;> omega
theorem l10Part_spec (x : Nat) (a : Int) (h64 : x < 18446744073709551616) (hx : fv x = some a) : Spec Tryz.prog 157 [.float .f64 x] [] [] (Gives (ptV x)) := by
  have hA := l01Abs_spec x h64
  have h14800 : (1 : Int).natAbs < 2 ^ 4800 := Nat.one_lt_two_pow (by omega)
  have hp := fv_p30
  have hfa := fv_fabs hx
  have hmw : modW x = wd (mp a) := by unfold modW; rw [fval_of hx]
  have hfb : fitB x = decide (a.natAbs ≤ 2 ^ 1104) := by unfold fitB; rw [fval_of hx]
  refine enter Tryz.func157 Tryz.ntmps157 rfl (by kernel_rfl) zCon rfl fun G => ?_
  all_goals ((try refine zR2 ?_) <;> (repeat' (with_reducible first | refine And.intro ?_ ?_ | intro _)))
  refine l_callM rfl rfl zEvs rfl hA .nil zFsub fun u => ?_
  have hu : fv u.1 = some (a.natAbs : Int) := by
    have h1 := u.2.1
    have h2 : nanB u.1 = false := by
      cases hn : nanB u.1 with
      | false => rfl
      | true =>
        rw [nf_nan hn] at h1
        rw [← h1, show fv NAN = none by decide +kernel] at hfa
        cases hfa
    rw [nf_num h2, Nat.mod_eq_of_lt u.2.2] at h1
    rw [h1]; exact hfa
  by_cases hfit : a.natAbs ≤ 2 ^ 1104
  · have hv : ptV x = .tuple #[.float .f64 (modW x), .bool true] := by unfold ptV; rw [if_pos (by rw [hfb]; exact decide_eq_true hfit)]
    rw [hv]
    clear hv hfb
    have hle : ¬ ((2 ^ 1104 : Nat) : Int) < (a.natAbs : Int) := by omega
    generalize hM : ((2 ^ 1104 : Nat) : Int) = M at hp hle
    all_goals ((try refine zR2 ?_) <;> (repeat' (with_reducible first | refine And.intro ?_ ?_ | intro _)))
    all_goals (first | (exfalso; omega) | skip)
    refine l_call rfl zEvs rfl (l03Of_spec x a h64 hx) zTake zFsub ?_
    rintro _ L' F' ⟨v, e, hV, hN, hv53, he1, he2, w, rfl, rfl, rfl⟩
    refine l_isList (.head _) fun hsw => ?_
    have hvb : v.natAbs < 2 ^ 4800 := Nat.lt_trans hv53 (Nat.pow_lt_pow_right (by omega) (by omega))
    by_cases hke : -60 ≤ e
    · have hmp : mp a = a := by
        have h3 := hV.at 0 (e + 1074).toNat (by omega)
        rw [Nat.pow_zero, Int.natCast_one, Int.mul_one, show (e + 1074).toNat = (e + 60).toNat + 1014 by omega, pw_add] at h3
        rw [h3]; exact mp_fix _
      obtain ⟨z1, z2, z3⟩ := add_zero hx
      have hw : fop .add x 0 = modW x := by rw [hmw, hmp]; exact Wd.eq ⟨z2, z1, z3⟩
      have hfl : floatBits .add .f64 x 0 = some (modW x) := by
        rw [← hw]
        obtain ⟨r, h1, _⟩ := add_exact hx fv_zero (by rw [Int.add_zero]; exact fv_rep hx)
        have e1 : floatBits .add .f64 x 0 = some r := h1
        unfold fop
        rw [e1]
        rfl
      clear hvb
      all_goals ((try refine zR2 ?_) <;> (repeat' (with_reducible first | refine And.intro ?_ ?_ | intro _)))
      all_goals (first | (exfalso; omega) | skip)
      (refine e_gives rfl zRes ?_; first | rfl | (simp [retVal, *]; done) | (simp_all [retVal]; done) | (simp only [retVal]))
    · have hodd : v % 2 = 1 := by
        rcases hN with ⟨_, h0⟩ | h
        · omega
        · exact h
      have he60 : e < -60 := by omega
      obtain ⟨K, hK⟩ : ∃ K, K = (-60 - e).toNat := ⟨_, rfl⟩
      have hrr := ref_round hV he1 he60
      have hlow := low_rest (v := v) he60
      have hhalf := @half_cmp (v % (2 ^ (-60 - e).toNat : Nat)) e
      have hfl2 : fl2 v (-60 - e).toNat = v / (2 ^ (-60 - e).toNat : Nat) + if ((2 ^ (-60 - e).toNat : Nat) : Int) < 2 * (v % (2 ^ (-60 - e).toNat : Nat)) ∨ (((2 ^ (-60 - e).toNat : Nat) : Int) = 2 * (v % (2 ^ (-60 - e).toNat : Nat)) ∧ v / (2 ^ (-60 - e).toNat : Nat) % 2 = 1) then 1 else 0 := rfl
      have hF := l03Floor_spec w v e 60 hvb (by omega) (by omega)
      have e1 : flV v e 60 = v / (2 ^ (-60 - e).toNat : Nat) := by unfold flV; rw [if_neg hke]
      have e2 : flE e 60 = -60 := by unfold flE; rw [if_neg hke]
      rw [e1, e2] at hF
      have hrb : (nv (v % (2 ^ (-60 - e).toNat : Nat))).natAbs < 2 ^ 4800 := by
        refine Nat.lt_of_le_of_lt (nv_le _) ?_
        have h1 := Int.emod_lt_of_pos v (pw_pos (-60 - e).toNat)
        have h2 := Int.emod_nonneg v (show ((2 ^ (-60 - e).toNat : Nat) : Int) ≠ 0 by have := pw_pos (-60 - e).toNat; omega)
        have h3 : 2 ^ (-60 - e).toNat ≤ 2 ^ 4800 := Nat.pow_le_pow_right (by omega) (by omega)
        generalize 2 ^ (-60 - e).toNat = g at *
        generalize 2 ^ 4800 = g2 at *
        omega
      have hrt : -5000 ≤ ne (v % (2 ^ (-60 - e).toNat : Nat)) e ∧ ne (v % (2 ^ (-60 - e).toNat : Nat)) e ≤ 0 := by
        by_cases h0 : v % (2 ^ (-60 - e).toNat : Nat) = 0
        · unfold ne; rw [if_pos h0]; omega
        · unfold ne
          rw [if_neg h0]
          have h1 := Int.emod_lt_of_pos v (pw_pos (-60 - e).toNat)
          have h2 := Int.emod_nonneg v (show ((2 ^ (-60 - e).toNat : Nat) : Int) ≠ 0 by have := pw_pos (-60 - e).toNat; omega)
          have := twos_blen (x := (v % (2 ^ (-60 - e).toNat : Nat)).natAbs) (k := (-60 - e).toNat) (by omega)
          omega
      have hfb : (v / (2 ^ (-60 - e).toNat : Nat)).natAbs < 2 ^ 53 := Nat.lt_of_le_of_lt (Int.natAbs_ediv_le_natAbs _ _) hv53
      have hpow : ((2 ^ (-60 - e).toNat : Nat) : Int) = ((2 ^ (-60 - e).toNat : Nat) : Int) := rfl
      generalize v / (2 ^ (-60 - e).toNat : Nat) = fl at *
      generalize v % (2 ^ (-60 - e).toNat : Nat) = r at *
      have hnb : (nv fl).natAbs < 2 ^ 4800 := Nat.lt_of_le_of_lt (nv_le _) (Nat.lt_trans hfb (Nat.pow_lt_pow_right (by omega) (by omega)))
      have hnt : -5000 ≤ ne fl (-60) ∧ ne fl (-60) ≤ 0 := by
        have := twos_blen hfb
        unfold ne
        split <;> omega
      have hol := odd_low fl
      all_goals ((try refine zR2 ?_) <;> (repeat' (with_reducible first | refine And.intro ?_ ?_ | intro _)))
      all_goals (first | (exfalso; omega) | skip)
      refine l_call rfl zEvs rfl hF zTake zFsub ?_
      rintro _ L' F' ⟨wl, rfl, rfl, rfl⟩
      refine l_isList (.head _) fun hswl => ?_
      clear hF
      all_goals ((try refine zR2 ?_) <;> (repeat' (with_reducible first | refine And.intro ?_ ?_ | intro _)))
      rename_i bL
      refine l_call rfl zEvs rfl (l03Sub_spec w wl v e (nv fl) (ne fl (-60)) hvb hnb (by omega) (by omega) (by omega)) zTake zFsub ?_
      rintro _ L' F' ⟨v2, k2, hs2, _, wr, rfl, rfl, rfl⟩
      refine l_isList (.head _) fun hswr => ?_
      obtain ⟨rfl, rfl⟩ := hs2.uniq hlow
      all_goals ((try refine zR2 ?_) <;> (repeat' (with_reducible first | refine And.intro ?_ ?_ | intro _)))
      refine l_call rfl zEvs rfl (l02Of_spec 1 (by decide)) zTake zFsub ?_
      rintro _ L' F' ⟨w1, rfl, rfl, rfl⟩
      refine l_isList (.head _) fun hsw1 => ?_
      all_goals ((try refine zR2 ?_) <;> (repeat' (with_reducible first | refine And.intro ?_ ?_ | intro _)))
      refine l_call rfl zEvs rfl (l03Compare_spec wr w1 (nv r) (ne r e) 1 (-61) hrb h14800 (by omega) (by omega) (by omega)) zTake zFsub ?_
      rintro _ L' F' ⟨s, k, hs, rfl, rfl, rfl⟩
      rw [hhalf he60 hs]
      clear hs hhalf hs2 hlow hrb hvb hke he60 hodd
      obtain ⟨c, hc, hc3⟩ : ∃ c, sgn (2 * r - ((2 ^ (-60 - e).toNat : Nat) : Int)) = c ∧ ((c = 1 ∧ ((2 ^ (-60 - e).toNat : Nat) : Int) < 2 * r) ∨ (c = 0 ∧ ((2 ^ (-60 - e).toNat : Nat) : Int) = 2 * r) ∨ (c = -1 ∧ 2 * r < ((2 ^ (-60 - e).toNat : Nat) : Int))) := by
        refine ⟨_, rfl, ?_⟩
        generalize ((2 ^ (-60 - e).toNat : Nat) : Int) = g
        unfold sgn
        split
        · exact .inr (.inl ⟨rfl, by omega⟩)
        · split
          · exact .inr (.inr ⟨rfl, by omega⟩)
          · exact .inl ⟨rfl, by omega⟩
      rw [hc]
      clear hc
      generalize ((2 ^ (-60 - e).toNat : Nat) : Int) = g at *
      rcases hc3 with ⟨rfl, hg⟩ | ⟨rfl, hg⟩ | ⟨rfl, hg⟩
      · have hcond : g < 2 * r ∨ g = 2 * r ∧ fl % 2 = 1 := .inl hg
        all_goals ((try refine zR2 ?_) <;> (repeat' (with_reducible first | refine And.intro ?_ ?_ | intro _)))
        all_goals
          have hq : mp a = (fl + 1) * (2 ^ 1014 : Nat) := by rw [hrr, hfl2, if_pos hcond]
          refine c_draw ([3, 4], []) [.box bL [.int .i64 (sgn (nv fl)), wl, .int .i64 (ne fl (-60))] 48] [0, 1, 2, 3, 4] (by kernel_rfl) (by kernel_rfl) ?_
          all_goals ((try refine zD2 ?_) <;> (repeat' (with_reducible first | refine And.intro ?_ ?_ | intro _)))
          refine l_call rfl zEvs rfl (l02Of_spec 1 (by decide)) zTake zFsub ?_
          rintro _ L' F' ⟨w3, rfl, rfl, rfl⟩
          refine l_isList (.head _) fun hsw3 => ?_
          all_goals ((try refine zD2 ?_) <;> (repeat' (with_reducible first | refine And.intro ?_ ?_ | intro _)))
          refine l_call rfl zEvs rfl (l03Add_spec wl w3 (nv fl) (ne fl (-60)) 1 (-60) hnb h14800 (by omega) (by omega) (by omega)) zTake zFsub ?_
          rintro _ L' F' ⟨v4, k4, hs4, _, w4, rfl, rfl, rfl⟩
          refine l_isList (.head _) fun hsw4 => ?_
          obtain ⟨rfl, rfl⟩ := hs4.uniq (low_add fl)
          all_goals ((try refine zD2 ?_) <;> (repeat' (with_reducible first | refine And.intro ?_ ?_ | intro _)))
          obtain ⟨_, hV2, hD⟩ := round_fin (fv_rep hx) hfit hq
          refine l_call rfl zEvs rfl (l03Round64_spec w4 (nv (fl + 1)) (ne (fl + 1) (-60)) hD) zTake zFsub ?_
          rintro _ L' F' ⟨y, b, rfl, hy64, hyb, rfl, rfl⟩
          rcases hyb with ⟨rfl, A, hA2, hex, hz⟩ | ⟨rfl, hno⟩
          · have hAe := hex _ hV2 (mp_rep (fv_rep hx) hfit)
            subst hAe
            have hw : y = modW x := by
              rw [hmw]
              exact Wd.eq ⟨hy64, hA2, fun h0 => hz (by rw [h0] at hV2; exact hV2.zero')⟩
            rw [← hw]
            all_goals ((try refine zR2 ?_) <;> (repeat' (with_reducible first | refine And.intro ?_ ?_ | intro _)))
            (refine e_gives rfl zRes ?_; first | rfl | (simp [retVal, *]; done) | (simp_all [retVal]; done) | (simp only [retVal]))
          · exact absurd (mp_rep (fv_rep hx) hfit) (hno _ hV2)
      · by_cases ho : fl % 2 = 1
        · have hcond : g < 2 * r ∨ g = 2 * r ∧ fl % 2 = 1 := .inr ⟨hg, ho⟩
          obtain ⟨ho1, ho2⟩ := hol.2 ho
          clear hol
          all_goals ((try refine zR2 ?_) <;> (repeat' (with_reducible first | refine And.intro ?_ ?_ | intro _)))
          all_goals (first | (exfalso; omega) | skip)
          all_goals
            have hq : mp a = (fl + 1) * (2 ^ 1014 : Nat) := by rw [hrr, hfl2, if_pos hcond]
            refine c_draw ([3, 4], []) [.box bL [.int .i64 (sgn (nv fl)), wl, .int .i64 (ne fl (-60))] 48] [0, 1, 2, 3, 4] (by kernel_rfl) (by kernel_rfl) ?_
            all_goals ((try refine zD2 ?_) <;> (repeat' (with_reducible first | refine And.intro ?_ ?_ | intro _)))
            refine l_call rfl zEvs rfl (l02Of_spec 1 (by decide)) zTake zFsub ?_
            rintro _ L' F' ⟨w3, rfl, rfl, rfl⟩
            refine l_isList (.head _) fun hsw3 => ?_
            all_goals ((try refine zD2 ?_) <;> (repeat' (with_reducible first | refine And.intro ?_ ?_ | intro _)))
            refine l_call rfl zEvs rfl (l03Add_spec wl w3 (nv fl) (ne fl (-60)) 1 (-60) hnb h14800 (by omega) (by omega) (by omega)) zTake zFsub ?_
            rintro _ L' F' ⟨v4, k4, hs4, _, w4, rfl, rfl, rfl⟩
            refine l_isList (.head _) fun hsw4 => ?_
            obtain ⟨rfl, rfl⟩ := hs4.uniq (low_add fl)
            all_goals ((try refine zD2 ?_) <;> (repeat' (with_reducible first | refine And.intro ?_ ?_ | intro _)))
            obtain ⟨_, hV2, hD⟩ := round_fin (fv_rep hx) hfit hq
            refine l_call rfl zEvs rfl (l03Round64_spec w4 (nv (fl + 1)) (ne (fl + 1) (-60)) hD) zTake zFsub ?_
            rintro _ L' F' ⟨y, b, rfl, hy64, hyb, rfl, rfl⟩
            rcases hyb with ⟨rfl, A, hA2, hex, hz⟩ | ⟨rfl, hno⟩
            · have hAe := hex _ hV2 (mp_rep (fv_rep hx) hfit)
              subst hAe
              have hw : y = modW x := by
                rw [hmw]
                exact Wd.eq ⟨hy64, hA2, fun h0 => hz (by rw [h0] at hV2; exact hV2.zero')⟩
              rw [← hw]
              all_goals ((try refine zR2 ?_) <;> (repeat' (with_reducible first | refine And.intro ?_ ?_ | intro _)))
              (refine e_gives rfl zRes ?_; first | rfl | (simp [retVal, *]; done) | (simp_all [retVal]; done) | (simp only [retVal]))
            · exact absurd (mp_rep (fv_rep hx) hfit) (hno _ hV2)
        · have hcond : ¬ (g < 2 * r ∨ g = 2 * r ∧ fl % 2 = 1) := by omega
          have ho1 : sgn (nv fl) ≠ 0 → ¬ ne fl (-60) = -60 := fun h1 h2 => ho (hol.1 ⟨h1, h2⟩)
          clear hol
          all_goals ((try refine zR2 ?_) <;> (repeat' (with_reducible first | refine And.intro ?_ ?_ | intro _)))
          all_goals (first | (exfalso; omega) | skip)
          all_goals
            have hq : mp a = fl * (2 ^ 1014 : Nat) := by rw [hrr, hfl2, if_neg hcond, Int.add_zero]
            obtain ⟨_, hV2, hD⟩ := round_fin (fv_rep hx) hfit hq
            refine l_call rfl zEvs rfl (l03Round64_spec wl (nv (fl)) (ne (fl) (-60)) hD) zTake zFsub ?_
            rintro _ L' F' ⟨y, b, rfl, hy64, hyb, rfl, rfl⟩
            rcases hyb with ⟨rfl, A, hA2, hex, hz⟩ | ⟨rfl, hno⟩
            · have hAe := hex _ hV2 (mp_rep (fv_rep hx) hfit)
              subst hAe
              have hw : y = modW x := by
                rw [hmw]
                exact Wd.eq ⟨hy64, hA2, fun h0 => hz (by rw [h0] at hV2; exact hV2.zero')⟩
              rw [← hw]
              all_goals ((try refine zR2 ?_) <;> (repeat' (with_reducible first | refine And.intro ?_ ?_ | intro _)))
              (refine e_gives rfl zRes ?_; first | rfl | (simp [retVal, *]; done) | (simp_all [retVal]; done) | (simp only [retVal]))
            · exact absurd (mp_rep (fv_rep hx) hfit) (hno _ hV2)
      · have hcond : ¬ (g < 2 * r ∨ g = 2 * r ∧ fl % 2 = 1) := by omega
        all_goals ((try refine zR2 ?_) <;> (repeat' (with_reducible first | refine And.intro ?_ ?_ | intro _)))
        all_goals
          have hq : mp a = fl * (2 ^ 1014 : Nat) := by rw [hrr, hfl2, if_neg hcond, Int.add_zero]
          obtain ⟨_, hV2, hD⟩ := round_fin (fv_rep hx) hfit hq
          refine l_call rfl zEvs rfl (l03Round64_spec wl (nv (fl)) (ne (fl) (-60)) hD) zTake zFsub ?_
          rintro _ L' F' ⟨y, b, rfl, hy64, hyb, rfl, rfl⟩
          rcases hyb with ⟨rfl, A, hA2, hex, hz⟩ | ⟨rfl, hno⟩
          · have hAe := hex _ hV2 (mp_rep (fv_rep hx) hfit)
            subst hAe
            have hw : y = modW x := by
              rw [hmw]
              exact Wd.eq ⟨hy64, hA2, fun h0 => hz (by rw [h0] at hV2; exact hV2.zero')⟩
            rw [← hw]
            all_goals ((try refine zR2 ?_) <;> (repeat' (with_reducible first | refine And.intro ?_ ?_ | intro _)))
            (refine e_gives rfl zRes ?_; first | rfl | (simp [retVal, *]; done) | (simp_all [retVal]; done) | (simp only [retVal]))
          · exact absurd (mp_rep (fv_rep hx) hfit) (hno _ hV2)
  · have hv : ptV x = .tuple #[.float .f64 0, .bool false] := by unfold ptV; rw [if_neg (by rw [hfb]; simpa using hfit)]
    rw [hv]
    clear hv hfb
    have hle : ((2 ^ 1104 : Nat) : Int) < (a.natAbs : Int) := by omega
    generalize hM : ((2 ^ 1104 : Nat) : Int) = M at hp hle
    all_goals ((try refine zR2 ?_) <;> (repeat' (with_reducible first | refine And.intro ?_ ?_ | intro _)))
    all_goals (first | (exfalso; omega) | skip)
    (refine e_gives rfl zRes ?_; first | rfl | (simp [retVal, *]; done) | (simp_all [retVal]; done) | (simp only [retVal]))
theorem l10Moderate_spec (x y : Nat) (hx : Fin1 x) (hy : Fin1 y) : Spec Tryz.prog 76 [.complex .f64 x y] [] [] (fun r L' F' => ∃ u v, r = .tuple #[.complex .f64 u v, .bool (fitC (x, y))] ∧ (fitC (x, y) = true → u = modW x ∧ v = modW y) ∧ L' = [] ∧ F' = []) := by
  obtain ⟨hx64, a, ha⟩ := hx
  obtain ⟨hy64, b, hb⟩ := hy
  have h1 := l10Part_spec x a hx64 ha
  have h2 := l10Part_spec y b hy64 hb
  unfold fitC
  dsimp only
  cases e1 : fitB x with
  | true =>
    have hv1 : ptV x = .tuple #[.float .f64 (modW x), .bool true] := by unfold ptV; rw [if_pos e1]
    rw [hv1] at h1
    cases e2 : fitB y with
    | true =>
      have hv2 : ptV y = .tuple #[.float .f64 (modW y), .bool true] := by unfold ptV; rw [if_pos e2]
      rw [hv2] at h2
      refine enter Tryz.func76 Tryz.ntmps76 rfl (by kernel_rfl) zCon rfl fun G => ?_
      all_goals (((try refine zR2 ?_) <;> (repeat' (with_reducible first | refine And.intro ?_ ?_ | intro _))) <;> (repeat' ((first | ((with_reducible apply l_callP); exact rfl; exact zEvs; exact rfl; (with_reducible apply h1); (case hF => exact zFsub); (try any_goals (refine propId ?_; omega))) | ((with_reducible apply l_callP); exact rfl; exact zEvs; exact rfl; (with_reducible apply h2); (case hF => exact zFsub); (try any_goals (refine propId ?_; omega)))) <;> ((try refine zR2 ?_) <;> (repeat' (with_reducible first | refine And.intro ?_ ?_ | intro _))))))
      exact e_resT rfl zRes .nil fsub_nil ⟨_, _, rfl, fun _ => ⟨rfl, rfl⟩, rfl, rfl⟩
    | false =>
      have hv2 : ptV y = .tuple #[.float .f64 0, .bool false] := by unfold ptV; rw [if_neg (by rw [e2]; decide)]
      rw [hv2] at h2
      refine enter Tryz.func76 Tryz.ntmps76 rfl (by kernel_rfl) zCon rfl fun G => ?_
      all_goals (((try refine zR2 ?_) <;> (repeat' (with_reducible first | refine And.intro ?_ ?_ | intro _))) <;> (repeat' ((first | ((with_reducible apply l_callP); exact rfl; exact zEvs; exact rfl; (with_reducible apply h1); (case hF => exact zFsub); (try any_goals (refine propId ?_; omega))) | ((with_reducible apply l_callP); exact rfl; exact zEvs; exact rfl; (with_reducible apply h2); (case hF => exact zFsub); (try any_goals (refine propId ?_; omega)))) <;> ((try refine zR2 ?_) <;> (repeat' (with_reducible first | refine And.intro ?_ ?_ | intro _))))))
      exact e_resT rfl zRes .nil fsub_nil ⟨_, _, rfl, fun h => by simp at h, rfl, rfl⟩
  | false =>
    have hv1 : ptV x = .tuple #[.float .f64 0, .bool false] := by unfold ptV; rw [if_neg (by rw [e1]; decide)]
    rw [hv1] at h1
    cases e2 : fitB y with
    | true =>
      have hv2 : ptV y = .tuple #[.float .f64 (modW y), .bool true] := by unfold ptV; rw [if_pos e2]
      rw [hv2] at h2
      refine enter Tryz.func76 Tryz.ntmps76 rfl (by kernel_rfl) zCon rfl fun G => ?_
      all_goals (((try refine zR2 ?_) <;> (repeat' (with_reducible first | refine And.intro ?_ ?_ | intro _))) <;> (repeat' ((first | ((with_reducible apply l_callP); exact rfl; exact zEvs; exact rfl; (with_reducible apply h1); (case hF => exact zFsub); (try any_goals (refine propId ?_; omega))) | ((with_reducible apply l_callP); exact rfl; exact zEvs; exact rfl; (with_reducible apply h2); (case hF => exact zFsub); (try any_goals (refine propId ?_; omega)))) <;> ((try refine zR2 ?_) <;> (repeat' (with_reducible first | refine And.intro ?_ ?_ | intro _))))))
      exact e_resT rfl zRes .nil fsub_nil ⟨_, _, rfl, fun h => by simp at h, rfl, rfl⟩
    | false =>
      have hv2 : ptV y = .tuple #[.float .f64 0, .bool false] := by unfold ptV; rw [if_neg (by rw [e2]; decide)]
      rw [hv2] at h2
      refine enter Tryz.func76 Tryz.ntmps76 rfl (by kernel_rfl) zCon rfl fun G => ?_
      all_goals (((try refine zR2 ?_) <;> (repeat' (with_reducible first | refine And.intro ?_ ?_ | intro _))) <;> (repeat' ((first | ((with_reducible apply l_callP); exact rfl; exact zEvs; exact rfl; (with_reducible apply h1); (case hF => exact zFsub); (try any_goals (refine propId ?_; omega))) | ((with_reducible apply l_callP); exact rfl; exact zEvs; exact rfl; (with_reducible apply h2); (case hF => exact zFsub); (try any_goals (refine propId ?_; omega)))) <;> ((try refine zR2 ?_) <;> (repeat' (with_reducible first | refine And.intro ?_ ?_ | intro _))))))
      exact e_resT rfl zRes .nil fsub_nil ⟨_, _, rfl, fun h => by simp at h, rfl, rfl⟩
theorem specMakeModerate_spec (x y : Nat) (hx : x < 18446744073709551616) (hy : y < 18446744073709551616) : Spec Tryz.prog 11 [.complex .f64 x y] [] [] (Gives (mmW (x, y))) := by
  have hI := l01Finite_spec x y
  cases hc : cfin (x, y) with
  | true =>
    rw [hc] at hI
    have hc' := hc
    unfold cfin at hc'
    rw [Bool.and_eq_true] at hc'
    have hM := l10Moderate_spec x y (fin1_of hx hc'.1) (fin1_of hy hc'.2)
    have hv : mmW (x, y) = mmV (x, y) := by unfold mmW; rw [if_pos hc]
    rw [hv]
    cases hf : fitC (x, y) with
    | true =>
      have hm : mmV (x, y) = .tuple #[.complex .f64 (modW x) (modW y), .int .i64 0] := by unfold mmV; rw [if_pos hf]; rfl
      rw [hm]
      rw [hf] at hM
      refine enter Tryz.func11 Tryz.ntmps11 rfl (by kernel_rfl) zCon rfl fun G => ?_
      all_goals (((try refine zR2 ?_) <;> (repeat' (with_reducible first | refine And.intro ?_ ?_ | intro _))) <;> (repeat' ((first | ((with_reducible apply l_callP); exact rfl; exact zEvs; exact rfl; (with_reducible apply hI); (case hF => exact zFsub); (try any_goals (refine propId ?_; omega)))) <;> ((try refine zR2 ?_) <;> (repeat' (with_reducible first | refine And.intro ?_ ?_ | intro _))))))
      refine l_call rfl zEvs rfl hM zTake zFsub ?_
      rintro _ L' F' ⟨u, v, rfl, h1, rfl, rfl⟩
      obtain ⟨rfl, rfl⟩ := h1 rfl
      all_goals ((try refine zR2 ?_) <;> (repeat' (with_reducible first | refine And.intro ?_ ?_ | intro _)))
      (refine e_gives rfl zRes ?_; first | rfl | (simp [retVal, *]; done) | (simp_all [retVal]; done) | (simp only [retVal]))
    | false =>
      have hm : mmV (x, y) = .tuple #[.complex .f64 0 0, .int .i64 3] := by unfold mmV; rw [if_neg (by rw [hf]; decide)]
      rw [hm]
      rw [hf] at hM
      refine enter Tryz.func11 Tryz.ntmps11 rfl (by kernel_rfl) zCon rfl fun G => ?_
      all_goals (((try refine zR2 ?_) <;> (repeat' (with_reducible first | refine And.intro ?_ ?_ | intro _))) <;> (repeat' ((first | ((with_reducible apply l_callP); exact rfl; exact zEvs; exact rfl; (with_reducible apply hI); (case hF => exact zFsub); (try any_goals (refine propId ?_; omega)))) <;> ((try refine zR2 ?_) <;> (repeat' (with_reducible first | refine And.intro ?_ ?_ | intro _))))))
      refine l_call rfl zEvs rfl hM zTake zFsub ?_
      rintro _ L' F' ⟨u, v, rfl, h1, rfl, rfl⟩
      all_goals ((try refine zR2 ?_) <;> (repeat' (with_reducible first | refine And.intro ?_ ?_ | intro _)))
      (refine e_gives rfl zRes ?_; first | rfl | (simp [retVal, *]; done) | (simp_all [retVal]; done) | (simp only [retVal]))
  | false =>
    rw [hc] at hI
    have hv : mmW (x, y) = .tuple #[.complex .f64 0 0, .int .i64 1] := by unfold mmW; rw [if_neg (by rw [hc]; decide)]
    rw [hv]
    refine enter Tryz.func11 Tryz.ntmps11 rfl (by kernel_rfl) zCon rfl fun G => ?_
    all_goals (((try refine zR2 ?_) <;> (repeat' (with_reducible first | refine And.intro ?_ ?_ | intro _))) <;> (repeat' ((first | ((with_reducible apply l_callP); exact rfl; exact zEvs; exact rfl; (with_reducible apply hI); (case hF => exact zFsub); (try any_goals (refine propId ?_; omega)))) <;> ((try refine zR2 ?_) <;> (repeat' (with_reducible first | refine And.intro ?_ ?_ | intro _))))))
    (refine e_gives rfl zRes ?_; first | rfl | (simp [retVal, *]; done) | (simp_all [retVal]; done) | (simp only [retVal]))
end Go.Proofs.YtbllgmcpebifhaaGreatDoor.K
