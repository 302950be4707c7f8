/- The reference's rounding: exact where it can be. -/
import Derived.Test.YtbllgmcpebifhaaGreatDoorZJk

section
namespace Go.Proofs.YtbllgmcpebifhaaGreatDoor.K
open Go Go.RowKit
set_option linter.all false
set_option exponentiation.threshold 6000

theorem fv_p24 : fv 4715268809856909312 = some (16777216 * ((2 ^ 1074 : Nat) : Int)) := by decide +kernel
theorem frep_small {V : Nat} (h : V ≤ 2 ^ 53) : FRep (V * 2 ^ 1074) := by
  refine frep_of V 1074 h ?_
  have h1 : V * 2 ^ 1074 ≤ 2 ^ 53 * 2 ^ 1074 := Nat.mul_le_mul_right _ h
  rw [← Nat.pow_add] at h1
  exact Nat.lt_of_le_of_lt h1 ((Nat.pow_lt_pow_iff_right (a := 2) (by omega)).2 (by omega))
/-- One limb more. -/
theorem limb_step {x : Nat} {V y W : Nat} (hx : fv x = some ((V : Int) * (2 ^ 1074 : Nat))) (hy : y < 16777216) (hW : W = y + 16777216 * V) (hb : W ≤ 2 ^ 53) :
    ∃ r t, floatBits .mul .f64 x 4715268809856909312 = some r ∧ floatBits .add .f64 r (floatOfInt .f64 (y : Int)) = some t ∧ t < 18446744073709551616 ∧ fv t = some ((W : Int) * (2 ^ 1074 : Nat)) := by
  have e53 : (2 : Nat) ^ 53 = 9007199254740992 := by decide
  have hR1 : FRep (((16777216 * V : Nat) : Int) * ((2 ^ 1074 : Nat) : Int)).natAbs := by
    rw [natAbs_pw, Int.natAbs_natCast]; exact frep_small (by omega)
  obtain ⟨r, h1, h2⟩ := mul_exact hx fv_p24 (c := ((16777216 * V : Nat) : Int) * ((2 ^ 1074 : Nat) : Int)) (by
    rw [Int.natCast_mul]
    generalize ((2 ^ 1074 : Nat) : Int) = U
    have : ((16777216 : Nat) : Int) = 16777216 := rfl
    rw [this]
    simp only [Int.mul_assoc, Int.mul_left_comm]) hR1
  have h3 := ofInt_exact (y : Int) (by rw [e53]; omega)
  have hsum : ((16777216 * V : Nat) : Int) * ((2 ^ 1074 : Nat) : Int) + (y : Int) * ((2 ^ 1074 : Nat) : Int) = (W : Int) * ((2 ^ 1074 : Nat) : Int) := by
    rw [← Int.add_mul, hW]
    congr 1
    omega
  have hR2 : FRep (((16777216 * V : Nat) : Int) * ((2 ^ 1074 : Nat) : Int) + (y : Int) * ((2 ^ 1074 : Nat) : Int)).natAbs := by
    rw [hsum, natAbs_pw, Int.natAbs_natCast]; exact frep_small hb
  obtain ⟨t, h4, h5⟩ := add_exact h2 h3 hR2
  rw [hsum] at h5
  exact ⟨r, t, h1, h4, Ieee.Format.add_lt _ h4, h5⟩

theorem vl_drop_step (l : List Int) (hr : InR 16777216 l) (t : Nat) (ht : t < l.length) : vl 16777216 (l.drop t) = l[t].toNat + 16777216 * vl 16777216 (l.drop (t + 1)) := by
  rw [List.drop_eq_getElem_cons ht]; rfl
theorem vl_drop_le (l : List Int) (hr : InR 16777216 l) (t : Nat) : vl 16777216 (l.drop t) ≤ vl 16777216 l := by
  rw [vl_drop_div _ (by omega) _ hr]; exact Nat.div_le_self _ _

/-- What l03Round hands back: a float or an infinity of a number that is the exact one if a float can be it. -/
def PRnd (v e : Int) (r : Value) (L' : List Own) (F' : List Fact) : Prop := ∃ y A, r = .float .f64 y ∧ Sc y A ∧ (∀ a, VEq a v e → FRep a.natAbs → A = a) ∧ (v = 0 → y = 0) ∧ L' = [] ∧ F' = []

theorem round_low {s b : Nat} (hs : s < 2 ^ b) (k : Nat) (hk : b ≤ 53 + k) : s / 2 ^ k < 2 ^ 53 := by
  rw [Nat.div_lt_iff_lt_mul (Nat.pow_pos (by omega)), ← Nat.pow_add]
  exact Nat.lt_of_lt_of_le hs (Nat.pow_le_pow_right (by omega) hk)
/-- The state behind the rounding: a whole number of at most 2^53, the exact one if a float can be it. -/
def Rnd (v e q : Int) (M : Nat) : Prop := M ≤ 2 ^ 53 ∧ (∀ a, VEq a v e → FRep a.natAbs → q ≤ e ∧ M = v.natAbs * 2 ^ (e - q).toNat)
theorem exact_q {v e a : Int} (hv : v % 2 = 1) (h : VEq a v e) (hR : FRep a.natAbs) : max ((blen v.natAbs : Int) + e - 53) (-1074) ≤ e := by
  obtain ⟨h1, h2, h3, h4⟩ := h.bounds hR hv
  have := blen_le.2 h1
  omega
theorem rnd_value {v e q a : Int} {M : Nat} (h : VEq a v e) (hq : -1074 ≤ q) (hqe : q ≤ e) (hM : M = v.natAbs * 2 ^ (e - q).toNat) : (if v < 0 then -((M : Int) * (2 ^ (q + 1074).toNat : Nat)) else (M : Int) * (2 ^ (q + 1074).toNat : Nat)) = a := by
  have h1 := h.at 0 (e + 1074).toNat (by omega)
  rw [Nat.pow_zero, Int.natCast_one, Int.mul_one] at h1
  have h2 : (M : Int) * (2 ^ (q + 1074).toNat : Nat) = (v.natAbs : Int) * (2 ^ (e + 1074).toNat : Nat) := by
    rw [hM, Int.natCast_mul, ← pw_add]
    congr 3; omega
  rw [h2, h1]
  split
  · rw [← Int.neg_mul]; congr 1; omega
  · congr 1; omega
end Go.Proofs.YtbllgmcpebifhaaGreatDoor.K
end

section
/- The reference's rounding: the walk. -/
namespace Go.Proofs.YtbllgmcpebifhaaGreatDoor.K
open Go Go.RowKit
set_option linter.all false
set_option maxRecDepth 4000
set_option maxHeartbeats 1000000
set_option exponentiation.threshold 6000

theorem l01Turned_sc (x : Nat) (A : Int) (h : Sc x A) : Spec Tryz.prog 296 [.float .f64 x] [] [] (PFl fun r => Sc r (-A)) := by
  by_cases hR : FRep A.natAbs
  · refine (l01Turned_fin x A (h.2.1 hR)).mono fun r L' F' ⟨y, h1, h2, h3, h4, h5⟩ => ⟨y, h1, h2, Sc.of h3 h2, h4, h5⟩
  · refine (l01Turned_inf x (h.2.2 hR)).mono fun r L' F' ⟨y, h1, h2, h3, h4, h5⟩ => ⟨y, h1, h2, ⟨h2, fun h => ?_, fun _ => h3⟩, h4, h5⟩
    rw [Int.natAbs_neg] at h; exact absurd h hR
theorem l01Scale_sc (x M : Nat) (q : Int) (h64 : x < 18446744073709551616) (hx : fv x = some ((M : Int) * (2 ^ 1074 : Nat))) (hq : -1074 ≤ q ∧ q ≤ 10000) : Spec Tryz.prog 72 [.float .f64 x, .int .i64 q] [] [] (PFl fun r => Sc r ((M : Int) * (2 ^ (q + 1074).toNat : Nat))) := by
  by_cases h0 : 0 ≤ q
  · have h := l01Scale_up x _ q.toNat (Sc.of hx h64) (by omega)
    rw [Int.toNat_of_nonneg h0, ← pw_add, show 1074 + q.toNat = (q + 1074).toNat by omega] at h
    exact h
  · have e : (M : Int) * (2 ^ 1074 : Nat) = (M : Int) * (2 ^ (q + 1074).toNat : Nat) * (2 ^ (-q).toNat : Nat) := by rw [← pw_add]; congr 3; omega
    rw [e] at hx
    have h := l01Scale_down x _ (-q).toNat h64 hx (by omega)
    rw [show -(((-q).toNat : Nat) : Int) = q by omega] at h
    exact h.mono fun r L' F' ⟨y, h1, h2, h3, h4, h5⟩ => ⟨y, h1, h2, Sc.of h3 h2, h4, h5⟩
theorem l03Round_spec (u : Value) (v e : Int) (hv : v % 2 = 1) (hl : v.natAbs < 2 ^ 4800) (he : -5000 ≤ e ∧ e ≤ 5000) :
    Spec Tryz.prog 264 [vDyadic (sgn v) u e, .int .i64 53, .int .i64 (-1074)] [] [fList 1 (rInt .i64) u (limbs v.natAbs)] (PRnd v e) := by
  refine enter Tryz.func264 Tryz.ntmps264 rfl (by kernel_rfl) zCon rfl fun G => ?_
  refine c_isList (v := u) zMem fun hsu => ?_
  have hv0 : v ≠ 0 := by omega
  have hg0 : ¬ sgn v = 0 := fun h => hv0 (sgn_zero.1 h)
  have hln : (limbs v.natAbs).length ≤ 200 := limbs_two 200 hl
  have hbl : blen v.natAbs ≤ 4800 := blen_le.2 hl
  have hbs : v.natAbs < 2 ^ blen v.natAbs := blen_le.1 (Nat.le_refl _)
  all_goals ((try refine zR2 ?_) <;> (repeat' (with_reducible first | refine And.intro ?_ ?_ | intro _)))
  all_goals first | (exfalso; contradiction) | skip
  refine l_call rfl zEvs rfl (l02Abs_spec u v (by omega)) zTake zFsub ?_
  rintro _ L' F' ⟨u1, rfl, rfl, rfl⟩
  refine l_isList (.head _) fun hs1 => ?_
  rw [Int.natAbs_natCast]
  all_goals ((try refine zS2 ?_) <;> (repeat' (with_reducible first | refine And.intro ?_ ?_ | intro _)))
  rename_i b3 _ b7
  obtain ⟨s, hs⟩ : ∃ s, s = v.natAbs := ⟨_, rfl⟩
  rw [← hs] at hln hbl hbs hl ⊢
  have hlen := l02Length_spec (sgn (s : Int)) u1 s (by omega)
  obtain ⟨q, hq⟩ : ∃ q, q = max ((blen s : Int) + e - 53) (-1074) := ⟨_, rfl⟩
  refine c_mid (κ := Unit) (fun _ => [(8, .int .i64 q), (7, ptr b7), (3, ptr b3)]) (fun _ => [.box b7 [.int .i64 (sgn (s : Int)), u1] 46, .box b3 [.int .i64 (sgn v), u, .int .i64 e] 48]) (fun _ => [fList 1 (rInt .i64) u1 (limbs s)]) ?_ ?_
  · refine c_draw ([9], []) [.box b3 [.int .i64 (sgn v), u, .int .i64 e] 48, .box b7 [.int .i64 (sgn (s : Int)), u1] 46] [0, 2, 3, 5, 7, 1, 4, 6, 8, 9] (by kernel_rfl) (by kernel_rfl) ?_
    all_goals (((try refine zD2 ?_) <;> (repeat' (with_reducible first | refine And.intro ?_ ?_ | intro _))) <;> (repeat' ((first | ((with_reducible apply l_callP); exact rfl; exact zEvs; exact rfl; (with_reducible apply hlen); (case hF => exact zFsub); (try any_goals (refine propId ?_; omega)))) <;> ((try refine zD2 ?_) <;> (repeat' (with_reducible first | refine And.intro ?_ ?_ | intro _))))))
    exact e_out () zSub rfl zFsub
  intro _
  have hqb : -1074 ≤ q ∧ q ≤ 10000 ∧ (blen s : Int) + e - 53 ≤ q := by omega
  have hqx : ∀ a, VEq a v e → FRep a.natAbs → q ≤ e := fun a h1 h2 => by have := exact_q hv h1 h2; rw [← hs] at this; omega
  have e53 : (2 : Nat) ^ 53 = 9007199254740992 := by decide
  clear hq
  all_goals ((try refine zS2 ?_) <;> (repeat' (with_reducible first | refine And.intro ?_ ?_ | intro _)))
  rename_i b9
  refine c_mid (κ := { p : Nat × Value // Rnd v e q p.1 }) (fun p => [(8, .int .i64 q), (9, ptr b9), (3, ptr b3)]) (fun p => [.box b9 [.int .i64 (sgn (p.1.1 : Int)), p.1.2] 46, .box b3 [.int .i64 (sgn v), u, .int .i64 e] 48]) (fun p => [fList 1 (rInt .i64) p.1.2 (limbs p.1.1)]) ?_ ?_
  · by_cases hsh : 0 < q - e
    · have hnx : ∀ a, VEq a v e → FRep a.natAbs → False := fun a h1 h2 => by have := hqx a h1 h2; omega
      have hM0 : s / 2 ^ (q - e).toNat < 2 ^ 53 := round_low hbs _ (by omega)
      have hcut := l02Cut_spec u1 (s : Int) (q - e).toNat (by rw [Int.natAbs_natCast]; omega) (by omega)
      rw [Int.natAbs_natCast, Int.toNat_of_nonneg (by omega)] at hcut
      have hbit := l02Bit_spec (sgn (s : Int)) u1 s (q - e - 1).toNat (by omega)
      rw [Int.toNat_of_nonneg (show 0 ≤ q - e - 1 by omega)] at hbit
      obtain ⟨hb, hbv⟩ : ∃ hb : Int, hb = ((s / 2 ^ (q - e - 1).toNat % 2 : Nat) : Int) := ⟨_, rfl⟩
      rw [← hbv] at hbit
      clear hbv
      obtain ⟨M0, hM0'⟩ : ∃ M0, M0 = s / 2 ^ (q - e).toNat := ⟨_, rfl⟩
      have htd : (s : Int).tdiv (2 ^ (q - e).toNat : Nat) = (M0 : Int) := by rw [hM0']; rfl
      rw [htd] at hcut
      rw [← hM0'] at hM0
      clear htd hM0'
      all_goals ((try refine zR2 ?_) <;> (repeat' (with_reducible first | refine And.intro ?_ ?_ | intro _)))
      all_goals (first | (exfalso; omega) | skip)
      refine l_call rfl zEvs rfl hcut zTake zFsub ?_
      rintro _ L' F' ⟨u2, rfl, rfl, rfl⟩
      refine l_isList (.head _) fun hs2 => ?_
      rw [Int.natAbs_natCast]
      have hbit0 := l02Bit_spec (sgn (M0 : Int)) u2 M0 0 (by omega)
      obtain ⟨h0, h0v⟩ : ∃ h0 : Int, h0 = ((M0 / 2 ^ 0 % 2 : Nat) : Int) := ⟨_, rfl⟩
      rw [← h0v] at hbit0
      clear h0v
      have hR0 : Rnd v e q M0 := ⟨Nat.le_of_lt hM0, fun a h1 h2 => (hnx a h1 h2).elim⟩
      have hR1 : Rnd v e q (M0 + 1) := ⟨hM0, fun a h1 h2 => (hnx a h1 h2).elim⟩
      rw [e53] at hM0
      have hM0l : (limbs ((M0 : Int)).natAbs).length ≤ 10 := by
        rw [Int.natAbs_natCast]
        exact Nat.le_trans (limbs_two 3 (Nat.lt_trans (by rw [e53]; exact hM0 : M0 < 2 ^ 53) (by decide))) (by omega)
      rw [show ((0 : Nat) : Int) = 0 from rfl] at hbit0
      all_goals (((try refine zR2 ?_) <;> (repeat' (with_reducible first | refine And.intro ?_ ?_ | intro _))) <;> (repeat' ((first | ((with_reducible apply l_callP); exact rfl; exact zEvs; exact rfl; (with_reducible apply hbit); (case hF => exact zFsub); (try any_goals (refine propId ?_; omega))) | ((with_reducible apply l_callP); exact rfl; exact zEvs; exact rfl; (with_reducible apply hbit0); (case hF => exact zFsub); (try any_goals (refine propId ?_; omega)))) <;> ((try refine zR2 ?_) <;> (repeat' (with_reducible first | refine And.intro ?_ ?_ | intro _))))))
      · skip
        refine c_draw ([2, 3], []) [.box b9 [.int .i64 (sgn (M0 : Int)), u2] 46] [0, 1, 2, 3] (by kernel_rfl) (by kernel_rfl) ?_
        all_goals ((try refine zD2 ?_) <;> (repeat' (with_reducible first | refine And.intro ?_ ?_ | intro _)))
        refine l_call rfl zEvs rfl (l02Of_spec 1 (by decide)) zTake zFsub ?_
        rintro _ L' F' ⟨u3, rfl, rfl, rfl⟩
        refine l_isList (.head _) fun hs3 => ?_
        all_goals ((try refine zD2 ?_) <;> (repeat' (with_reducible first | refine And.intro ?_ ?_ | intro _)))
        refine l_call rfl zEvs rfl (l02Add_spec u2 u3 (M0 : Int) 1 10 hM0l (by decide +kernel) (by omega)) zTake zFsub ?_
        rintro _ L' F' ⟨u4, rfl, rfl, rfl⟩
        refine l_isList (.head _) fun hs4 => ?_
        rw [show (M0 : Int) + 1 = ((M0 + 1 : Nat) : Int) by omega, Int.natAbs_natCast]
        all_goals ((try refine zD2 ?_) <;> (repeat' (with_reducible first | refine And.intro ?_ ?_ | intro _)))
        refine ends_take (L' := [.box b9 [.int .i64 (sgn ((M0 + 1 : Nat) : Int)), u4] 46, .box b3 [.int .i64 (sgn v), u, .int .i64 e] 48]) zTake ?_
        exact e_out ⟨(M0 + 1, u4), hR1⟩ zSub rfl zFsub
      · skip
        refine c_draw ([2, 3], []) [.box b9 [.int .i64 (sgn (M0 : Int)), u2] 46] [0, 1, 2, 3] (by kernel_rfl) (by kernel_rfl) ?_
        all_goals ((try refine zD2 ?_) <;> (repeat' (with_reducible first | refine And.intro ?_ ?_ | intro _)))
        refine l_call rfl zEvs rfl (l02Of_spec 1 (by decide)) zTake zFsub ?_
        rintro _ L' F' ⟨u3, rfl, rfl, rfl⟩
        refine l_isList (.head _) fun hs3 => ?_
        all_goals ((try refine zD2 ?_) <;> (repeat' (with_reducible first | refine And.intro ?_ ?_ | intro _)))
        refine l_call rfl zEvs rfl (l02Add_spec u2 u3 (M0 : Int) 1 10 hM0l (by decide +kernel) (by omega)) zTake zFsub ?_
        rintro _ L' F' ⟨u4, rfl, rfl, rfl⟩
        refine l_isList (.head _) fun hs4 => ?_
        rw [show (M0 : Int) + 1 = ((M0 + 1 : Nat) : Int) by omega, Int.natAbs_natCast]
        all_goals ((try refine zD2 ?_) <;> (repeat' (with_reducible first | refine And.intro ?_ ?_ | intro _)))
        refine ends_take (L' := [.box b9 [.int .i64 (sgn ((M0 + 1 : Nat) : Int)), u4] 46, .box b3 [.int .i64 (sgn v), u, .int .i64 e] 48]) zTake ?_
        exact e_out ⟨(M0 + 1, u4), hR1⟩ zSub rfl zFsub
      · skip
        refine ends_take (L' := [.box b9 [.int .i64 (sgn (M0 : Int)), u2] 46, .box b3 [.int .i64 (sgn v), u, .int .i64 e] 48]) zTake ?_
        exact e_out ⟨(M0, u2), hR0⟩ zSub rfl zFsub
      · skip
        refine ends_take (L' := [.box b9 [.int .i64 (sgn (M0 : Int)), u2] 46, .box b3 [.int .i64 (sgn v), u, .int .i64 e] 48]) zTake ?_
        exact e_out ⟨(M0, u2), hR0⟩ zSub rfl zFsub
    · have hleft := l02Left_spec u1 (s : Int) (e - q).toNat (by rw [Int.natAbs_natCast]; omega) (by omega)
      rw [Int.natAbs_natCast, show (((e - q).toNat : Nat) : Int) = 0 - (q - e) by omega] at hleft
      have hRL : Rnd v e q (s * 2 ^ (e - q).toNat) := ⟨Nat.le_of_lt (pw_lt hbs _ (by omega)), fun a _ _ => ⟨by omega, by rw [hs]⟩⟩
      all_goals ((try refine zR2 ?_) <;> (repeat' (with_reducible first | refine And.intro ?_ ?_ | intro _)))
      all_goals (first | (exfalso; omega) | skip)
      refine l_call rfl zEvs rfl hleft zTake zFsub ?_
      rintro _ L' F' ⟨u2, rfl, rfl, rfl⟩
      refine l_isList (.head _) fun hs2 => ?_
      rw [← Int.natCast_mul, Int.natAbs_natCast]
      all_goals ((try refine zR2 ?_) <;> (repeat' (with_reducible first | refine And.intro ?_ ?_ | intro _)))
      refine ends_take (L' := [.box b9 [.int .i64 (sgn ((s * 2 ^ (e - q).toNat : Nat) : Int)), u2] 46, .box b3 [.int .i64 (sgn v), u, .int .i64 e] 48]) zTake ?_
      exact e_out ⟨(s * 2 ^ (e - q).toNat, u2), hRL⟩ zSub rfl zFsub
  · rintro ⟨⟨M, um⟩, hM53, hMx⟩
    dsimp only at hM53 hMx ⊢
    refine c_isList (v := um) zMem fun hsm => ?_
    have hr := limbs_range M
    have hval := limbs_val M
    have hM3 : (limbs M).length ≤ 3 := limbs_two 3 (Nat.lt_of_le_of_lt hM53 (by decide))
    have hstep : ∀ (x t : Nat), 0 < t → t ≤ (limbs M).length → x < 18446744073709551616 → fv x = some ((vl 16777216 ((limbs M).drop t) : Int) * (2 ^ 1074 : Nat)) →
        ∃ y r z, (limbs M)[t - 1]? = some ((y : Nat) : Int) ∧ floatBits .mul .f64 x 4715268809856909312 = some r ∧ floatBits .add .f64 r (floatOfInt .f64 ((y : Nat) : Int)) = some z ∧ z < 18446744073709551616 ∧ fv z = some ((vl 16777216 ((limbs M).drop (t - 1)) : Int) * (2 ^ 1074 : Nat)) := by
      intro x t h0 ht hx64 hx
      have ht1 : t - 1 < (limbs M).length := by omega
      have h1 := hr _ (List.getElem_mem ht1)
      have h2 := vl_drop_step (limbs M) hr (t - 1) ht1
      rw [show t - 1 + 1 = t by omega] at h2
      have h3 := vl_drop_le (limbs M) hr (t - 1)
      rw [hval] at h3
      obtain ⟨r, z, h4, h5, h6, h7⟩ := limb_step hx (y := (limbs M)[t - 1].toNat) (by omega) h2 (by omega)
      refine ⟨(limbs M)[t - 1].toNat, r, z, ?_, h4, h5, h6, h7⟩
      rw [List.getElem?_eq_getElem ht1, Int.toNat_of_nonneg h1.1]
    all_goals ((try refine zR2 ?_) <;> (repeat' (with_reducible first | refine And.intro ?_ ?_ | intro _)))
    refine c_while (ι := { p : Nat × Nat // p.2 ≤ (limbs M).length ∧ p.1 < 18446744073709551616 ∧ fv p.1 = some ((vl 16777216 ((limbs M).drop p.2) : Int) * (2 ^ 1074 : Nat)) }) (κ := { x : Nat // x < 18446744073709551616 ∧ fv x = some ((M : Int) * (2 ^ 1074 : Nat)) })
      (fun p => [(12, .float .f64 p.1.1), (13, .int .i64 ((p.1.2 : Int) - 1)), (8, .int .i64 q), (9, ptr b9), (3, ptr b3)]) (fun p => [.box b9 [.int .i64 (sgn (M : Int)), um] 46, .box b3 [.int .i64 (sgn v), u, .int .i64 e] 48]) (fun p => [fList 1 (rInt .i64) um (limbs M)]) (fun p => p.1.2)
      (fun x => [(12, .float .f64 x.1), (8, .int .i64 q), (3, ptr b3)]) (fun p => [.box b3 [.int .i64 (sgn v), u, .int .i64 e] 48]) (fun p => []) ⟨(0, (limbs M).length), Nat.le_refl _, Nat.zero_lt_succ _, by rw [List.drop_length]; simp [vl, fv_zero]⟩ (fun _ _ s => s.start zSub zRfl zFsub) ?_ ?_
    · rintro ⟨⟨x, t⟩, ht, hx64, hx⟩
      dsimp only at ht hx64 hx ⊢
      by_cases ht0 : t = 0
      · subst ht0
        rw [List.drop_zero, hval] at hx
        all_goals ((try refine zR2 ?_) <;> (repeat' (with_reducible first | refine And.intro ?_ ?_ | intro _)))
        all_goals (first | (exfalso; omega) | skip)
        refine ends_take (L' := [.box b3 [.int .i64 (sgn v), u, .int .i64 e] 48]) zTake ?_
        exact e_out ⟨x, hx64, hx⟩ zSub rfl zFsub
      · obtain ⟨y, r, z, h1, h2, h3, h4, h5⟩ := hstep x t (by omega) ht hx64 hx
        clear hstep
        all_goals ((try refine zR2 ?_) <;> (repeat' (with_reducible first | refine And.intro ?_ ?_ | intro _)))
        all_goals (first | (exfalso; omega) | skip)
        exact e_again ⟨(z, t - 1), by dsimp only; omega, h4, h5⟩ (by dsimp only; omega) zSub rfl zFsub
    · rintro ⟨x, hx64, hx⟩
      dsimp only at hx64 hx ⊢
      clear hstep
      have hfin := fun (a : Int) (h1 : VEq a v e) (h2 : FRep a.natAbs) => rnd_value h1 hqb.1 (hMx a h1 h2).1 (hMx a h1 h2).2
      have hneg : sgn v < 0 ↔ v < 0 := by unfold sgn; split <;> (try split) <;> omega
      all_goals ((try refine zR2 ?_) <;> (repeat' (with_reducible first | refine And.intro ?_ ?_ | intro _)))
      refine l_call rfl zEvs rfl (l01Scale_sc x M q hx64 hx ⟨hqb.1, hqb.2.1⟩) zTake zFsub ?_
      rintro _ L' F' ⟨y, rfl, hy64, hy, rfl, rfl⟩
      by_cases hv1 : v < 0
      · have hsg : sgn v < 0 := hneg.2 hv1
        all_goals ((try refine zR2 ?_) <;> (repeat' (with_reducible first | refine And.intro ?_ ?_ | intro _)))
        all_goals (first | (exfalso; omega) | skip)
        refine l_call rfl zEvs rfl (l01Turned_sc y _ hy) zTake zFsub ?_
        rintro _ L' F' ⟨z, rfl, hz64, hz, rfl, rfl⟩
        all_goals ((try refine zR2 ?_) <;> (repeat' (with_reducible first | refine And.intro ?_ ?_ | intro _)))
        refine e_resT rfl zRes .nil fsub_nil ⟨z, _, rfl, hz, fun a h1 h2 => ?_, fun h => absurd h hv0, rfl, rfl⟩
        have := hfin a h1 h2
        rw [if_pos hv1] at this
        exact this
      · have hsg : ¬ sgn v < 0 := fun h => hv1 (hneg.1 h)
        all_goals ((try refine zR2 ?_) <;> (repeat' (with_reducible first | refine And.intro ?_ ?_ | intro _)))
        all_goals (first | (exfalso; omega) | skip)
        refine e_resT rfl zRes .nil fsub_nil ⟨y, _, rfl, hy, fun a h1 h2 => ?_, fun h => absurd h hv0, rfl, rfl⟩
        have := hfin a h1 h2
        rw [if_neg hv1] at this
        exact this
end Go.Proofs.YtbllgmcpebifhaaGreatDoor.K
end
