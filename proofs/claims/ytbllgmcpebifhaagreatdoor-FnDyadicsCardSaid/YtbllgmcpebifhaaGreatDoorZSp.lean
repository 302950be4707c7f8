/- The program's moderate numbers. -/
import Derived.Test.YtbllgmcpebifhaaGreatDoorZSm
import Derived.Test.YtbllgmcpebifhaaGreatDoorZNe
import Derived.Test.YtbllgmcpebifhaaGreatDoorZLy

section
namespace Go.Proofs.YtbllgmcpebifhaaGreatDoor.K
open Go Go.RowKit Go.Lib Ieee
set_option exponentiation.threshold 6000
set_option linter.all false
set_option maxRecDepth 10000
set_option maxHeartbeats 1000000

section
variable {G : Ctx} {n : Nat} {P : Program} {ops : Array Oper} {Q : Post} {rest : List Oper} {m : Regs} {L : List Own} {F : List Fact} {d : Nat} {ty : TypeId} {pos : String} {af : Array Edge} {g : Option (Nat × Bool)}
end
theorem ffin_of {x : Nat} {a : Int} (h : fv x = some a) : ffin x = true := by
  obtain ⟨r, h1, h2⟩ := fin_sub h
  unfold ffin
  have e : fop .sub x x = (double.sub x x).getD NAN := rfl
  rw [e, h1]
  exact (fcmp_val h2 fv_zero).1.trans (decide_eq_true rfl)
/-- Is a part moderate? -/
def isModB (x : Nat) : Bool := ffin x && (fitB x && decide (fval x % ((2 ^ 1014 : Nat) : Int) = 0))
theorem isMod_iff {x : Nat} {a : Int} (h : fv x = some a) : isModB x = true ↔ a.natAbs ≤ 2 ^ 1104 ∧ ∃ q : Int, a = q * (2 ^ 1014 : Nat) := by
  unfold isModB fitB
  rw [ffin_of h, fval_of h, Bool.true_and, Bool.and_eq_true, decide_eq_true_eq, decide_eq_true_eq]
  constructor
  · rintro ⟨h1, h2⟩
    obtain ⟨q, hq⟩ := Int.dvd_of_emod_eq_zero h2
    exact ⟨h1, q, by rw [hq, Int.mul_comm]⟩
  · rintro ⟨h1, q, hq⟩
    exact ⟨h1, by rw [hq]; exact Int.mul_emod_left _ _⟩
theorem Mod1.is {a : Int} {x : Nat} (h : Mod1 a x) : isModB x = true := (isMod_iff h.1.2.1).2 ⟨h.2.2, h.2.1⟩
end Go.Proofs.YtbllgmcpebifhaaGreatDoor.K
end

section
/- The reference's moderate numbers. -/
namespace Go.Proofs.YtbllgmcpebifhaaGreatDoor.K
open Go Go.RowKit Go.Lib Ieee
set_option exponentiation.threshold 20000
set_option linter.all false
set_option maxRecDepth 10000
set_option maxHeartbeats 1000000

theorem floor_cut (v : Int) (k : Nat) : v / (2 ^ k : Nat) = if v < 0 ∧ twos v.natAbs < k then v.tdiv (2 ^ k : Nat) - 1 else v.tdiv (2 ^ k : Nat) := by
  have hp : 0 < 2 ^ k := Nat.pow_pos (by omega)
  have hpi : (0 : Int) < ((2 ^ k : Nat) : Int) := by exact_mod_cast hp
  by_cases hv : v < 0
  · have h0 : v.natAbs ≠ 0 := by omega
    have ht := twos_at h0
    have e : v = -(v.natAbs : Int) := by omega
    by_cases hk : twos v.natAbs < k
    · rw [if_pos ⟨hv, hk⟩]
      have hnd : ¬ v.natAbs % 2 ^ k = 0 := fun hm => by
        obtain ⟨m, hm⟩ := Nat.dvd_of_mod_eq_zero hm
        generalize twos v.natAbs = t at *
        generalize v.natAbs = n at *
        have h2 : 2 ^ k = 2 ^ (k - t - 1) * 2 * 2 ^ t := by rw [← Nat.pow_succ, ← Nat.pow_add]; congr 1; omega
        rw [h2] at hm
        have h4 : n = 2 * (2 ^ (k - t - 1) * m) * 2 ^ t := by
          rw [hm]
          simp only [Nat.mul_comm, Nat.mul_assoc, Nat.mul_left_comm]
        have h1 := ht.1
        rw [h4, Nat.mul_div_cancel _ (Nat.pow_pos (by omega))] at h1
        omega
      generalize v.natAbs = n at *
      subst e
      rw [Int.neg_tdiv, ← Int.ofNat_tdiv]
      have h1 := Nat.div_add_mod n (2 ^ k)
      have h2 := Nat.mod_lt n hp
      generalize 2 ^ k = g at *
      have e0 : -(n : Int) = -(((n / g : Nat) : Int) + 1) * g + ((g - n % g : Nat) : Int) := by
        have h4 : ((g * (n / g) + n % g : Nat) : Int) = n := congrArg Nat.cast h1
        rw [Int.natCast_add, Int.natCast_mul] at h4
        rw [Int.neg_mul, Int.add_mul, Int.mul_comm _ (g : Int)]
        generalize (g : Int) * ((n / g : Nat) : Int) = t at *
        omega
      rw [e0, Int.add_comm, Int.add_mul_ediv_right _ _ (by omega), Int.ediv_eq_zero_of_lt (by omega) (by omega), Int.zero_add]
      omega
    · rw [if_neg (fun h => hk h.2)]
      have hd : ((2 ^ k : Nat) : Int) ∣ v := by
        have h1 : 2 ^ twos v.natAbs ∣ v.natAbs := Nat.dvd_of_mod_eq_zero ht.2
        have h2 : 2 ^ k ∣ 2 ^ twos v.natAbs := Nat.pow_dvd_pow 2 (by omega)
        exact Int.dvd_natAbs.1 (Int.natCast_dvd_natCast.2 (Nat.dvd_trans h2 h1))
      obtain ⟨q, hq⟩ := hd
      rw [hq, Int.mul_ediv_cancel_left _ (by omega), Int.mul_tdiv_cancel_left _ (by omega)]
  · rw [if_neg (fun h => hv h.1), Int.tdiv_eq_ediv_of_nonneg (by omega)]
theorem SumIs.uniq {v1 e1 v2 e2 v e w f : Int} (h : SumIs v1 e1 v2 e2 v e) (k : SumIs v1 e1 v2 e2 w f) : v = w ∧ e = f := by
  obtain ⟨K, h1, h2, h3, h4⟩ : ∃ K : Int, 0 ≤ e1 + K ∧ 0 ≤ e2 + K ∧ 0 ≤ e + K ∧ 0 ≤ f + K := ⟨(e1.natAbs : Int) + e2.natAbs + e.natAbs + f.natAbs, by omega, by omega, by omega, by omega⟩
  have a := (h.2 K h1 h2 h3).trans (k.2 K h1 h2 h4).symm
  unfold vat at a
  rcases h.1 with ⟨rfl, rfl⟩ | hv
  · rw [Int.zero_mul] at a
    have hw : w = 0 := by
      rcases Int.mul_eq_zero.1 a.symm with h | h
      · exact h
      · exact absurd h (Int.ne_of_gt (pw_pos _))
    rcases k.1 with ⟨_, rfl⟩ | hw'
    · exact ⟨hw.symm, rfl⟩
    · omega
  · rcases k.1 with ⟨rfl, rfl⟩ | hw
    · rw [Int.zero_mul] at a
      rcases Int.mul_eq_zero.1 a with h | h
      · omega
      · exact absurd h (Int.ne_of_gt (pw_pos _))
    · have := odd_pow a hv hw
      exact ⟨this.1, by omega⟩
theorem l02Sub_spec (ua ub : Value) (va vb : Int) (M : Nat) (hla : (limbs va.natAbs).length ≤ M) (hlb : (limbs vb.natAbs).length ≤ M) (hM : M ≤ 980) : Spec Tryz.prog 179 [vWhole (sgn va) ua, vWhole (sgn vb) ub] [] [fList 1 (rInt .i64) ua (limbs va.natAbs), fList 1 (rInt .i64) ub (limbs vb.natAbs)] (PWh (va - vb)) := by
  refine enter Tryz.func179 Tryz.ntmps179 rfl (by kernel_rfl) zCon rfl fun G => ?_
  refine c_isList (v := ua) zMem fun hs1 => ?_
  refine c_isList (v := ub) zMem fun hs2 => ?_
  all_goals ((try refine zR2 ?_) <;> (repeat' (with_reducible first | refine And.intro ?_ ?_ | intro _)))
  rename_i bA bB bC
  refine c_draw ([3, 4], []) [.box bA [.int .i64 (sgn va), ua] 46, .box bB [.int .i64 (sgn vb), ub] 46] [0, 1, 2, 3, 4] (by kernel_rfl) (by kernel_rfl) ?_
  all_goals ((try refine zD2 ?_) <;> (repeat' (with_reducible first | refine And.intro ?_ ?_ | intro _)))
  refine l_call rfl zEvs rfl (l02Neg_spec ub vb (by omega)) zTake zFsub ?_
  rintro _ L' F' ⟨w1, rfl, rfl, rfl⟩
  refine l_isList (.head _) fun hsw1 => ?_
  all_goals ((try refine zD2 ?_) <;> (repeat' (with_reducible first | refine And.intro ?_ ?_ | intro _)))
  refine l_call rfl zEvs rfl (l02Add_spec ua w1 va (-vb) M hla (by rw [Int.natAbs_neg]; exact hlb) hM) zTake zFsub ?_
  rintro _ L' F' ⟨w', rfl, rfl, rfl⟩
  refine l_isList (.head _) fun hs' => ?_
  all_goals ((try refine zD2 ?_) <;> (repeat' (with_reducible first | refine And.intro ?_ ?_ | intro _)))
  exact e_resT rfl zRes .nil (fsub_cons zMem fsub_nil) ⟨w', rfl, rfl, rfl⟩
theorem l02ShiftDown_spec (u : Value) (v : Int) (k : Nat) (q : Int) (hqk : q = -(k : Int)) (hl : v.natAbs < 2 ^ 4800) (hk : 1 ≤ k ∧ k ≤ 8000) : Spec Tryz.prog 183 [vWhole (sgn v) u, .int .i64 q] [] [fList 1 (rInt .i64) u (limbs v.natAbs)] (PWh (v / (2 ^ k : Nat))) := by
  have hm : (limbs v.natAbs).length ≤ 200 := limbs_two 200 hl
  have htw : twos v.natAbs ≤ 4800 := twos_blen hl
  have hc := l02Cut_spec u v k (by omega) (by omega)
  rw [show (k : Int) = 0 - q by omega] at hc
  have hq : (limbs (v.tdiv (2 ^ k : Nat)).natAbs).length ≤ 200 := limbs_two 200 (Nat.lt_of_le_of_lt (by rw [tdiv_abs]; exact Nat.div_le_self _ _) hl)
  have hfl := floor_cut v k
  have ho1 : (limbs (1 : Int).natAbs).length ≤ 200 := limbs_two 200 (Nat.one_lt_two_pow (by omega))
  have hst : ∀ s, sgn v = s → (s < 0 ↔ v < 0) := fun s hs => by rw [← hs]; unfold sgn; split <;> (try split) <;> omega
  clear hl
  obtain ⟨s, hs⟩ : ∃ s, sgn v = s := ⟨_, rfl⟩
  have hsv := hst s hs
  rw [hs] at hc ⊢
  by_cases hv : v < 0
  · have h0 : v.natAbs ≠ 0 := by omega
    have ht := l02Twos_spec s u v.natAbs h0 (by omega) (by omega)
    refine enter Tryz.func183 Tryz.ntmps183 rfl (by kernel_rfl) zCon rfl fun G => ?_
    refine c_isList (v := u) zMem fun hs1 => ?_
    all_goals ((try refine zR2 ?_) <;> (repeat' (with_reducible first | refine And.intro ?_ ?_ | intro _)))
    all_goals (first | (exfalso; omega) | skip)
    refine l_call rfl zEvs rfl hc zTake zFsub ?_
    rintro _ L' F' ⟨w1, rfl, rfl, rfl⟩
    refine l_isList (.head _) fun hsw1 => ?_
    all_goals (((try refine zR2 ?_) <;> (repeat' (with_reducible first | refine And.intro ?_ ?_ | intro _))) <;> (repeat' ((first | ((with_reducible apply l_callP); exact rfl; exact zEvs; exact rfl; (with_reducible apply ht); (case hF => exact zFsub); (try any_goals (refine propId ?_; omega)))) <;> ((try refine zR2 ?_) <;> (repeat' (with_reducible first | refine And.intro ?_ ?_ | intro _))))))
    all_goals (first | (exfalso; omega) | skip)
    · rename_i bO h1 hlt
      rw [hfl, if_pos ⟨hv, by omega⟩]
      refine c_draw ([2, 3], []) [.box bO [.int .i64 (sgn (v.tdiv (2 ^ k : Nat))), w1] 46] [0, 1, 2, 3] (by kernel_rfl) (by kernel_rfl) ?_
      all_goals ((try refine zD2 ?_) <;> (repeat' (with_reducible first | refine And.intro ?_ ?_ | intro _)))
      refine l_call rfl zEvs rfl (l02Of_spec 1 (by decide)) zTake zFsub ?_
      rintro _ L' F' ⟨w2, rfl, rfl, rfl⟩
      refine l_isList (.head _) fun hsw2 => ?_
      all_goals ((try refine zD2 ?_) <;> (repeat' (with_reducible first | refine And.intro ?_ ?_ | intro _)))
      refine l_call rfl zEvs rfl (l02Sub_spec w1 w2 (v.tdiv (2 ^ k : Nat)) 1 200 hq ho1 (by omega)) zTake zFsub ?_
      rintro _ L' F' ⟨w', rfl, rfl, rfl⟩
      refine l_isList (.head _) fun hs' => ?_
      all_goals ((try refine zD2 ?_) <;> (repeat' (with_reducible first | refine And.intro ?_ ?_ | intro _)))
      exact e_resT rfl zRes .nil (fsub_cons zMem fsub_nil) ⟨w', rfl, rfl, rfl⟩
    · rw [hfl, if_neg (fun h => by omega)]
      exact e_resT rfl zRes .nil (fsub_cons zMem fsub_nil) ⟨w1, rfl, rfl, rfl⟩
  · rw [hfl, if_neg (fun h => hv h.1)]
    refine enter Tryz.func183 Tryz.ntmps183 rfl (by kernel_rfl) zCon rfl fun G => ?_
    refine c_isList (v := u) zMem fun hs1 => ?_
    all_goals ((try refine zR2 ?_) <;> (repeat' (with_reducible first | refine And.intro ?_ ?_ | intro _)))
    all_goals (first | (exfalso; omega) | skip)
    refine l_call rfl zEvs rfl hc zTake zFsub ?_
    rintro _ L' F' ⟨w1, rfl, rfl, rfl⟩
    refine l_isList (.head _) fun hsw1 => ?_
    all_goals ((try refine zR2 ?_) <;> (repeat' (with_reducible first | refine And.intro ?_ ?_ | intro _)))
    all_goals (first | (exfalso; omega) | skip)
    exact e_resT rfl zRes .nil (fsub_cons zMem fsub_nil) ⟨w1, rfl, rfl, rfl⟩
/-- The floor to multiples of 2^-k. -/
def flV (v e k : Int) : Int := if -k ≤ e then v else v / (2 ^ (-k - e).toNat : Nat)
def flE (e k : Int) : Int := if -k ≤ e then e else -k
theorem l03Floor_spec (u : Value) (v e k : Int) (hl : v.natAbs < 2 ^ 4800) (he : -5000 ≤ e ∧ e ≤ 5000) (hk : -2000 ≤ k ∧ k ≤ 2000) : Spec Tryz.prog 112 [vDyadic (sgn v) u e, .int .i64 k] [] [fList 1 (rInt .i64) u (limbs v.natAbs)] (PDw (nv (flV v e k)) (ne (flV v e k) (flE e k))) := by
  have hm : (limbs v.natAbs).length ≤ 200 := limbs_two 200 hl
  have htw : twos v.natAbs ≤ 4800 := twos_blen hl
  by_cases hke : -k ≤ e
  · have hM := l03Make_spec u v e (by omega) (by omega) (by omega)
    have e1 : flV v e k = v := by unfold flV; rw [if_pos hke]
    have e2 : flE e k = e := by unfold flE; rw [if_pos hke]
    rw [e1, e2]
    clear hl
    refine enter Tryz.func112 Tryz.ntmps112 rfl (by kernel_rfl) zCon rfl fun G => ?_
    refine c_isList (v := u) zMem fun hs1 => ?_
    all_goals ((try refine zR2 ?_) <;> (repeat' (with_reducible first | refine And.intro ?_ ?_ | intro _)))
    all_goals (first | (exfalso; omega) | skip)
    refine l_call rfl zEvs rfl hM zTake zFsub ?_
    rintro _ L' F' ⟨w1, rfl, rfl, rfl⟩
    refine l_isList (.head _) fun hsw1 => ?_
    all_goals ((try refine zR2 ?_) <;> (repeat' (with_reducible first | refine And.intro ?_ ?_ | intro _)))
    exact e_resT rfl zRes .nil (fsub_cons zMem fsub_nil) ⟨w1, rfl, rfl, rfl⟩
  · have e1 : flV v e k = v / (2 ^ (-k - e).toNat : Nat) := by unfold flV; rw [if_neg hke]
    have e2 : flE e k = -k := by unfold flE; rw [if_neg hke]
    have hS := l02ShiftDown_spec u v (-k - e).toNat (e + k) (by omega) hl (by omega)
    rw [← e1] at hS
    have hq : (flV v e k).natAbs < 2 ^ 4800 := by
      rw [e1]
      exact Nat.lt_of_le_of_lt (Int.natAbs_ediv_le_natAbs _ _) hl
    have hm2 : (limbs (flV v e k).natAbs).length ≤ 200 := limbs_two 200 hq
    have ht2 : twos (flV v e k).natAbs ≤ 4800 := twos_blen hq
    rw [e2, show -k = 0 - k by omega]
    generalize flV v e k = f at *
    clear hl hq
    refine enter Tryz.func112 Tryz.ntmps112 rfl (by kernel_rfl) zCon rfl fun G => ?_
    refine c_isList (v := u) zMem fun hs1 => ?_
    all_goals ((try refine zR2 ?_) <;> (repeat' (with_reducible first | refine And.intro ?_ ?_ | intro _)))
    all_goals (first | (exfalso; omega) | skip)
    refine l_call rfl zEvs rfl hS zTake zFsub ?_
    rintro _ L' F' ⟨w1, rfl, rfl, rfl⟩
    refine l_isList (.head _) fun hsw1 => ?_
    all_goals ((try refine zR2 ?_) <;> (repeat' (with_reducible first | refine And.intro ?_ ?_ | intro _)))
    refine l_call rfl zEvs rfl (l03Make_spec w1 f (0 - k) (by omega) (by omega) (by omega)) zTake zFsub ?_
    rintro _ L' F' ⟨w2, rfl, rfl, rfl⟩
    refine l_isList (.head _) fun hsw2 => ?_
    all_goals ((try refine zR2 ?_) <;> (repeat' (with_reducible first | refine And.intro ?_ ?_ | intro _)))
    exact e_resT rfl zRes .nil (fsub_cons zMem fsub_nil) ⟨w2, rfl, rfl, rfl⟩
theorem add_zero {x : Nat} {a : Int} (hx : fv x = some a) : fv (fop .add x 0) = some a ∧ fop .add x 0 < 18446744073709551616 ∧ (a = 0 → fop .add x 0 = 0) := by
  obtain ⟨r, h1, h2⟩ := add_exact hx fv_zero (by rw [Int.add_zero]; exact fv_rep hx)
  have e : fop .add x 0 = (double.add x 0).getD NAN := rfl
  have e1 : fop .add x 0 = r := by rw [e, h1]; rfl
  rw [Int.add_zero] at h2
  have h64 : r < 18446744073709551616 := fb_lt (op := .add) (x := x) (y := 0) h1
  refine ⟨by rw [e1]; exact h2, by rw [e1]; exact h64, fun h0 => ?_⟩
  subst h0
  obtain ⟨s, m, p, hr, hv, hp, _⟩ := fv_num hx
  have hm : m = 0 := by
    have h3 := congrArg Int.natAbs hv
    rw [signed_abs] at h3
    rcases Nat.mul_eq_zero.1 h3.symm with h | h
    · exact h
    · exact absurd h (Nat.pos_iff_ne_zero.1 (Nat.pow_pos (by omega)))
  subst hm
  have e2 : fop .add x 0 = (((double.read x).sum (double.read 0)).map double.write).getD NAN := rfl
  rw [e2, hr, read_zero]
  have e3 : Ieee.signed s 0 (p - min p (-1074)).toNat = 0 := by unfold Ieee.signed; cases s <;> simp
  have e4 : Ieee.signed false 0 (-1074 - min p (-1074)).toNat = 0 := by unfold Ieee.signed; simp
  unfold Datum.sum
  simp only [e3, e4]
  cases s <;> simp [Format.write, Format.nearest, Format.word]
end Go.Proofs.YtbllgmcpebifhaaGreatDoor.K
end
