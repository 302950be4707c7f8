/- Moderate numbers, in plain terms: rounding to multiples, the step away. -/
import Derived.Test.YtbllgmcpebifhaaGreatDoorZSh
import Derived.Test.YtbllgmcpebifhaaGreatDoorZJl

section
namespace Go.Proofs.YtbllgmcpebifhaaGreatDoor.K
open Go Go.RowKit Ieee
set_option linter.all false
set_option exponentiation.threshold 3000
set_option maxRecDepth 10000

/-- The whole number nearest to n / 2^k, between two the even one. -/
def re (n k : Nat) : Nat := n / 2 ^ k + if 2 ^ k < 2 * (n % 2 ^ k) ∨ (2 ^ k = 2 * (n % 2 ^ k) ∧ n / 2 ^ k % 2 = 1) then 1 else 0
theorem toNat_dec (g r q : Nat) : ((decide (g < 2 * r) || (g == 2 * r && q % 2 == 1)) : Bool).toNat = if g < 2 * r ∨ (g = 2 * r ∧ q % 2 = 1) then 1 else 0 := by
  by_cases h1 : g < 2 * r
  · simp [h1]
  · by_cases h2 : g = 2 * r
    · by_cases h3 : q % 2 = 1 <;> simp [h2, h3]
    · simp [h1, h2]
theorem cut_re (s : Bool) (n d : Nat) : Toward.even.cut s n d = re n d := by
  unfold Toward.cut re
  simp only [Nat.shiftLeft_eq, Nat.one_mul]
  rcases Nat.le_total d (n.log2 + 2) with h | h
  · rw [Nat.min_eq_left h]
    congr 1
    exact toNat_dec _ _ _
  · rw [Nat.min_eq_right h]
    rw [toNat_dec]
    have hp : 0 < 2 ^ d := Nat.pow_pos (by omega)
    have hp2 : 0 < 2 ^ (n.log2 + 2) := Nat.pow_pos (by omega)
    have h1 : 2 * n < 2 ^ (n.log2 + 2) := by
      by_cases h0 : n = 0
      · subst h0; decide
      · have := (Nat.log2_lt h0).1 (Nat.lt_succ_self _)
        rw [Nat.pow_succ]
        have e : n.log2.succ = n.log2 + 1 := rfl
        rw [e] at this
        omega
    have h2 : 2 ^ (n.log2 + 2) ≤ 2 ^ d := Nat.pow_le_pow_right (by omega) h
    have a1 : n / 2 ^ (n.log2 + 2) = 0 := Nat.div_eq_of_lt (by omega)
    have a2 : n % 2 ^ (n.log2 + 2) = n := Nat.mod_eq_of_lt (by omega)
    have a3 : n / 2 ^ d = 0 := Nat.div_eq_of_lt (by omega)
    have a4 : n % 2 ^ d = n := Nat.mod_eq_of_lt (by omega)
    rw [a1, a2, a3, a4]
    rw [if_neg (by omega), if_neg (by omega)]
theorem re_zero (n : Nat) : re n 0 = n := by
  unfold re
  rw [Nat.pow_zero, Nat.div_one, Nat.mod_one, if_neg (by omega), Nat.add_zero]
theorem re_scale (n j d : Nat) : re (n * 2 ^ j) (d + j) = re n d := by
  unfold re
  have hp : 0 < 2 ^ j := Nat.pow_pos (by omega)
  rw [Nat.pow_add, Nat.mul_div_mul_right _ _ hp, Nat.mul_mod_mul_right]
  have e : 2 * (n % 2 ^ d * 2 ^ j) = 2 * (n % 2 ^ d) * 2 ^ j := by rw [Nat.mul_assoc]
  rw [e]
  have e1 : (2 ^ d * 2 ^ j < 2 * (n % 2 ^ d) * 2 ^ j) ↔ (2 ^ d < 2 * (n % 2 ^ d)) := Nat.mul_lt_mul_right hp
  have e2 : (2 ^ d * 2 ^ j = 2 * (n % 2 ^ d) * 2 ^ j) ↔ (2 ^ d = 2 * (n % 2 ^ d)) := ⟨fun h => Nat.eq_of_mul_eq_mul_right hp h, fun h => congrArg (· * 2 ^ j) h⟩
  simp only [e1, e2]
theorem re_mul (q k : Nat) : re (q * 2 ^ k) k = q := by
  have := re_scale q k 0
  rw [Nat.zero_add, re_zero] at this
  exact this
theorem re_near (n k : Nat) : 2 * (re n k * 2 ^ k) ≤ 2 * n + 2 ^ k ∧ 2 * n ≤ 2 * (re n k * 2 ^ k) + 2 ^ k := by
  unfold re
  have hp : 0 < 2 ^ k := Nat.pow_pos (by omega)
  have h1 := Nat.div_add_mod n (2 ^ k)
  have h2 := Nat.mod_lt n hp
  rw [Nat.mul_comm] at h1
  rw [Nat.add_mul]
  generalize n / 2 ^ k * 2 ^ k = t at *
  generalize n % 2 ^ k = r at *
  generalize 2 ^ k = g at *
  split
  · omega
  · omega
theorem re_le {n k M : Nat} (h : n ≤ M * 2 ^ k) : re n k ≤ M := by
  unfold re
  have hp : 0 < 2 ^ k := Nat.pow_pos (by omega)
  have h1 := Nat.div_add_mod n (2 ^ k)
  rw [Nat.mul_comm] at h1
  have h2 : n / 2 ^ k ≤ M := by
    have := Nat.div_le_div_right (c := 2 ^ k) h
    rwa [Nat.mul_div_cancel _ hp] at this
  by_cases h3 : n / 2 ^ k = M
  · rw [h3] at h1 ⊢
    have : n % 2 ^ k = 0 := by omega
    rw [this, if_neg (by omega)]
    omega
  · split <;> omega

/-- The nearest multiple of 2^-60 (of 2^1014 units). -/
def mpN (n : Nat) : Nat := re n 1014 * 2 ^ 1014
def mp (a : Int) : Int := if a < 0 then -((mpN a.natAbs : Nat) : Int) else ((mpN a.natAbs : Nat) : Int)
theorem mp_abs (a : Int) : (mp a).natAbs = mpN a.natAbs := by
  unfold mp
  split
  · rw [Int.natAbs_neg, Int.natAbs_natCast]
  · rw [Int.natAbs_natCast]
theorem mp_rep {a : Int} (h : FRep a.natAbs) (hb : a.natAbs ≤ 2 ^ 1104) : FRep (mp a).natAbs := by
  rw [mp_abs]
  obtain ⟨m, k, e, hm, hk⟩ := h
  have hle : re a.natAbs 1014 ≤ 2 ^ 90 := re_le (by rw [← Nat.pow_add]; exact hb)
  unfold mpN
  by_cases h1 : 1014 ≤ k
  · have e1 : a.natAbs = m * 2 ^ (k - 1014) * 2 ^ 1014 := by rw [Nat.mul_assoc, ← Nat.pow_add, Nat.sub_add_cancel h1]; exact e
    rw [e1, re_mul, ← e1, e]
    exact ⟨m, k, rfl, hm, hk⟩
  · have h2 : re a.natAbs 1014 ≤ 2 ^ 53 := by
      refine re_le ?_
      rw [e]
      exact Nat.mul_le_mul (Nat.le_of_lt hm) (Nat.pow_le_pow_right (by omega) (by omega))
    refine frep_of _ 1014 h2 ?_
    refine Nat.lt_of_le_of_lt (Nat.mul_le_mul_right _ h2) ?_
    rw [← Nat.pow_add]
    exact Nat.pow_lt_pow_right (by omega) (by omega)
theorem mp_mul (a : Int) : ∃ q : Int, mp a = q * (2 ^ 1014 : Nat) := by
  unfold mp mpN
  split
  · exact ⟨-(re a.natAbs 1014 : Nat), by rw [Int.natCast_mul, Int.neg_mul]⟩
  · exact ⟨(re a.natAbs 1014 : Nat), by rw [Int.natCast_mul]⟩
theorem mp_le {a : Int} (h : a.natAbs ≤ 2 ^ 1104) : (mp a).natAbs ≤ 2 ^ 1104 := by
  rw [mp_abs]
  unfold mpN
  have hle : re a.natAbs 1014 ≤ 2 ^ 90 := re_le (by rw [← Nat.pow_add]; exact h)
  have := Nat.mul_le_mul_right (2 ^ 1014) hle
  rwa [← Nat.pow_add] at this
/-- The word of a value; of nought, the positive zero. -/
def Wd (b : Int) (r : Nat) : Prop := r < 18446744073709551616 ∧ fv r = some b ∧ (b = 0 → r = 0)
theorem Wd.uniq {b : Int} {r s : Nat} (h : Wd b r) (k : Wd b s) : r = s := by
  by_cases h0 : b = 0
  · rw [h.2.2 h0, k.2.2 h0]
  · exact fv_inj h.2.1 k.2.1 h.1 k.1 h0
theorem Wd.inj {a b : Int} {r : Nat} (h : Wd a r) (k : Wd b r) : a = b := by
  have := h.2.1.symm.trans k.2.1
  injection this
theorem write_lt (d : Datum) : double.write d < 18446744073709551616 := double.write_lt d
theorem wd_ex {b : Int} (h : FRep b.natAbs) : ∃ r, Wd b r := by
  by_cases h0 : b = 0
  · subst h0; exact ⟨0, by decide, by decide +kernel, fun _ => rfl⟩
  · refine ⟨double.write (.number (decide (b < 0)) b.natAbs (-1074)), write_lt _, ?_, fun h => absurd h h0⟩
    rw [write_num _ b.natAbs (-1074) b.natAbs 0 0 rfl (by omega) h]
    congr 1
    by_cases hb : b < 0
    · rw [if_pos (decide_eq_true hb)]; omega
    · rw [if_neg (by simp [hb])]; omega
noncomputable def wd (b : Int) : Nat := open Classical in if h : ∃ r, Wd b r then Classical.choose h else 0
theorem wd_is {b : Int} (h : FRep b.natAbs) : Wd b (wd b) := by
  have h1 := wd_ex h
  unfold wd
  rw [dif_pos h1]
  exact Classical.choose_spec h1
theorem Wd.eq {b : Int} {r : Nat} (h : Wd b r) : r = wd b := h.uniq (wd_is (fv_rep h.2.1))
end Go.Proofs.YtbllgmcpebifhaaGreatDoor.K
end

section
/- The step away from an equal number, in plain terms: it goes one way, and not far. -/
namespace Go.Proofs.YtbllgmcpebifhaaGreatDoor.K
open Go Go.RowKit Ieee
set_option linter.all false
set_option exponentiation.threshold 3000
set_option maxRecDepth 10000

theorem write_near (s : Bool) (mag : Nat) (place : Int) (A J : Nat) (hp : -1074 ≤ place) (hA : A = mag * 2 ^ (place + 1074).toNat) (hlt : A < 2 ^ (53 + J)) (hJ : J ≤ 2000) :
    ∃ V : Nat, fv (double.write (.number s mag place)) = some (if s then -(V : Int) else V) ∧ V ≤ A + 2 ^ J ∧ A ≤ V + 2 ^ J := by
  by_cases hmag : mag = 0
  · subst hmag
    rw [Nat.zero_mul] at hA
    exact ⟨0, write_num s 0 place 0 (place + 1074).toNat 0 (by simp) (by omega) frep_zero, Nat.zero_le _, by rw [hA]; exact Nat.zero_le _⟩
  · have hlogA : A.log2 = mag.log2 + (place + 1074).toNat := by rw [hA]; exact log2_scale hmag _
    have hA0 : A ≠ 0 := by rw [hA]; exact Nat.mul_ne_zero hmag (by have := Nat.pow_pos (a := 2) (n := (place + 1074).toNat) (by omega); omega)
    obtain ⟨j, hj⟩ : ∃ j, j = A.log2 - 52 := ⟨_, rfl⟩
    have hLJ : A.log2 < 53 + J := (Nat.log2_lt hA0).2 hlt
    have hjJ : j ≤ J := by omega
    have hup : A < 2 ^ (A.log2 + 1) := (Nat.log2_lt hA0).1 (Nat.lt_succ_self _)
    have hlow : 2 ^ A.log2 ≤ A := (Nat.le_log2 hA0).1 (Nat.le_refl _)
    have hlast : max (place + (mag.log2 : Int) - (double.fractionBits : Nat)) double.leastPlace = (j : Int) - 1074 := by
      rw [lp, show double.fractionBits = 52 from rfl]
      omega
    have hcut : Toward.even.cut s (mag <<< (place - ((j : Int) - 1074)).toNat) ((j : Int) - 1074 - place).toNat = re A j := by
      rw [cut_re, Nat.shiftLeft_eq]
      by_cases h : j ≤ (place + 1074).toNat
      · rw [show ((j : Int) - 1074 - place).toNat = 0 by omega, re_zero, show (place - ((j : Int) - 1074)).toNat = (place + 1074).toNat - j by omega]
        have : A = mag * 2 ^ ((place + 1074).toNat - j) * 2 ^ j := by rw [Nat.mul_assoc, ← Nat.pow_add, Nat.sub_add_cancel h]; exact hA
        rw [this, re_mul]
      · rw [show (place - ((j : Int) - 1074)).toNat = 0 by omega, Nat.pow_zero, Nat.mul_one, show ((j : Int) - 1074 - place).toNat = j - (place + 1074).toNat by omega]
        have := re_scale mag (place + 1074).toNat (j - (place + 1074).toNat)
        rw [show j - (place + 1074).toNat + (place + 1074).toNat = j by omega, ← hA] at this
        exact this.symm
    have h53 : (2 : Nat) ^ 53 = 9007199254740992 := by decide
    have h52 : (2 : Nat) ^ 52 = 4503599627370496 := by decide
    have hk1 : re A j ≤ 2 ^ 53 := by
      refine re_le ?_
      rw [← Nat.pow_add]
      exact Nat.le_of_lt (Nat.lt_of_lt_of_le hup (Nat.pow_le_pow_right (by omega) (by omega)))
    have hk2 : 0 < j → 2 ^ 52 ≤ re A j := fun h0 => by
      have : 2 ^ 52 ≤ A / 2 ^ j := by
        refine (Nat.le_div_iff_mul_le (Nat.pow_pos (by omega))).2 ?_
        rw [← Nat.pow_add, show 52 + j = A.log2 by omega]
        exact hlow
      unfold re
      omega
    have hn := re_near A j
    have hjp : 2 ^ j ≤ 2 ^ J := Nat.pow_le_pow_right (by omega) hjJ
    refine ⟨re A j * 2 ^ j, ?_, by omega, by omega⟩
    unfold Format.write Format.nearest
    dsimp only
    rw [if_neg hmag]
    simp only [hlast]
    rw [hcut, lp, bn, ir, show ((j : Int) - 1074 - -1074).toNat = j by omega]
    generalize re A j = kept at *
    have : j * 4503599627370496 + kept ≤ 9218868437227405312 := by omega
    rw [Nat.min_eq_left this]
    by_cases hk : kept < 2 ^ 53
    · exact read_word_num hk (by omega) hk2 rfl
    · have hke : kept = 9007199254740992 := by omega
      have e1 : j * 4503599627370496 + kept = (j + 1) * 4503599627370496 + 4503599627370496 := by omega
      rw [e1]
      refine read_word_num (by omega) (by omega) (fun _ => by omega) ?_
      rw [hke, Nat.pow_succ]
      generalize 2 ^ j = g
      omega
theorem data_near (s t : Bool) (m n : Nat) (i j : Int) (hi : -1074 ≤ i) (hj : -1074 ≤ j) (J : Nat) (hJ : J ≤ 2000) (T : Int) (hT : T = signed s m (i + 1074).toNat + signed t n (j + 1074).toNat) (hlt : T.natAbs < 2 ^ (53 + J)) :
    ∃ d c, Datum.sum (.number s m i) (.number t n j) = some d ∧ fv (double.write d) = some c ∧ c - T ≤ ((2 ^ J : Nat) : Int) ∧ T - c ≤ ((2 ^ J : Nat) : Int) := by
  obtain ⟨tot, htot⟩ : ∃ tot, tot = signed s m (i - min i j).toNat + signed t n (j - min i j).toNat := ⟨_, rfl⟩
  have hTt : T = tot * (2 ^ (min i j + 1074).toNat : Nat) := by
    rw [htot, Int.add_mul, ← signed_scale, ← signed_scale, hT]
    congr 2 <;> omega
  have hp : (0 : Int) < ((2 ^ (min i j + 1074).toNat : Nat) : Int) := pw_pos _
  obtain ⟨V, h1, h2, h3⟩ := write_near (if tot = 0 then s && t else decide (tot < 0)) tot.natAbs (min i j) T.natAbs J (by omega) (by rw [hTt, natAbs_pw]) hlt hJ
  have hd : Datum.sum (.number s m i) (.number t n j) = some (.number (if tot = 0 then s && t else decide (tot < 0)) tot.natAbs (min i j)) := by
    rw [htot]; rfl
  refine ⟨_, _, hd, h1, ?_⟩
  generalize 2 ^ J = g at *
  by_cases h0 : tot = 0
  · have : T = 0 := by rw [hTt, h0, Int.zero_mul]
    split <;> omega
  · by_cases hn : tot < 0
    · have : T < 0 := by rw [hTt]; exact Int.mul_neg_of_neg_of_pos hn hp
      rw [if_neg h0, if_pos (decide_eq_true hn)]
      omega
    · have : 0 ≤ T := by rw [hTt]; exact Int.mul_nonneg (by omega) (Int.le_of_lt hp)
      rw [if_neg h0, if_neg (by simp [hn])]
      omega
theorem add_near {x y : Nat} {a b : Int} (hx : fv x = some a) (hy : fv y = some b) (J : Nat) (hJ : J ≤ 2000) (hlt : (a + b).natAbs < 2 ^ (53 + J)) :
    ∃ c, fv (fop .add x y) = some c ∧ fop .add x y < 18446744073709551616 ∧ c - (a + b) ≤ ((2 ^ J : Nat) : Int) ∧ a + b - c ≤ ((2 ^ J : Nat) : Int) := by
  obtain ⟨s, m, i, hrx, ha, hi, _, _⟩ := fv_num hx
  obtain ⟨t, n, j, hry, hb, hj, _, _⟩ := fv_num hy
  obtain ⟨d, c, h1, h2, h3⟩ := data_near s t m n i j hi hj J hJ (a + b) (by rw [ha, hb]) hlt
  have e : fop .add x y = double.write d := by
    have e : fop .add x y = (((double.read x).sum (double.read y)).map double.write).getD NAN := rfl
    rw [e, hrx, hry, h1]
    rfl
  rw [e]
  exact ⟨c, h2, write_lt _, h3⟩
theorem fv_nonan {x : Nat} {a : Int} (h : fv x = some a) : nanB x = false := by
  obtain ⟨s, m, p, h, _⟩ := fv_num h
  unfold nanB
  rw [h]
  rfl
def stepS (x : Nat) : Nat := fop .add (fop .mul (fabs x) 4427038433705197568) 4472074429978902528
noncomputable def stepX (up : Bool) (x : Nat) : Nat := wd (mp ((fv (fop (bif up then .add else .sub) x (stepS x))).getD 0))
theorem fop_mul_exact {x y : Nat} {a b c : Int} (hx : fv x = some a) (hy : fv y = some b) (hc : a * b = c * (2 ^ 1074 : Nat)) (hR : FRep c.natAbs) : fv (fop .mul x y) = some c := by
  obtain ⟨r, h1, h2⟩ := mul_exact hx hy hc hR
  have e : fop .mul x y = (double.mul x y).getD NAN := rfl
  rw [e, h1]
  exact h2
end Go.Proofs.YtbllgmcpebifhaaGreatDoor.K
end

section
/- Separated numbers, in plain terms. -/
namespace Go.Proofs.YtbllgmcpebifhaaGreatDoor.K
open Go Go.RowKit Ieee
set_option linter.all false
set_option exponentiation.threshold 3000
set_option maxRecDepth 10000

/-- A part that is moderate. -/
def Mod1 (a : Int) (x : Nat) : Prop := Wd a x ∧ (∃ q : Int, a = q * (2 ^ 1014 : Nat)) ∧ a.natAbs ≤ 2 ^ 1104
theorem Mod1.mp {a : Int} {r : Nat} (h : Wd (mp a) r) (hb : a.natAbs ≤ 2 ^ 1104) : Mod1 (mp a) r := ⟨h, mp_mul a, mp_le hb⟩
theorem Mod1.of {a : Int} {x : Nat} (h : fv x = some a) (hb : a.natAbs ≤ 2 ^ 1104) : Mod1 (K.mp a) (wd (K.mp a)) := Mod1.mp (wd_is (mp_rep (fv_rep h) hb)) hb
/-- The value of a word. -/
def fval (x : Nat) : Int := (fv x).getD 0
theorem fval_of {x : Nat} {a : Int} (h : fv x = some a) : fval x = a := by unfold fval; rw [h]; rfl
def fitB (x : Nat) : Bool := decide ((fval x).natAbs ≤ 2 ^ 1104)
theorem fcmp_val {x y : Nat} {a b : Int} (hx : fv x = some a) (hy : fv y = some b) :
    fcmp .eql x y = decide (a = b) ∧ fcmp .leq x y = decide (a ≤ b) ∧ fcmp .gtr x y = decide (b < a) ∧ fcmp .lss x y = decide (a < b) := by
  have h := order_exact hx hy
  show (double.order x y == some .eq) = _ ∧ (double.order x y == some .lt || double.order x y == some .eq) = _ ∧ (double.order x y == some .gt) = _ ∧ (double.order x y == some .lt) = _
  rw [h]
  rcases Int.lt_trichotomy a b with h1 | h1 | h1
  · have : compare a b = .lt := by rw [Int.compare_eq_lt]; exact h1
    rw [this, decide_eq_false (show ¬ a = b by omega), decide_eq_true (show a ≤ b by omega), decide_eq_false (show ¬ b < a by omega), decide_eq_true h1]
    exact ⟨rfl, rfl, rfl, rfl⟩
  · subst h1
    have : compare a a = .eq := by rw [Int.compare_eq_eq]
    rw [this, decide_eq_true rfl, decide_eq_true (Int.le_refl a), decide_eq_false (show ¬ a < a by omega)]
    exact ⟨rfl, rfl, rfl, rfl⟩
  · have : compare a b = .gt := by rw [Int.compare_eq_gt]; exact h1
    rw [this, decide_eq_false (show ¬ a = b by omega), decide_eq_false (show ¬ a ≤ b by omega), decide_eq_true h1, decide_eq_false (show ¬ a < b by omega)]
    exact ⟨rfl, rfl, rfl, rfl⟩
/-! the search for a number that is not there yet -/
noncomputable def stepC (up : Bool) (z : Nat × Nat) : Nat × Nat := (stepX up z.1, z.2)
inductive Sp (up : Bool) (prev : List (Nat × Nat)) : Nat × Nat → Nat × Nat → Prop
  | stop {z : Nat × Nat} : z ∉ prev → Sp up prev z z
  | step {z w : Nat × Nat} : z ∈ prev → Sp up prev (stepC up z) w → Sp up prev z w
theorem Sp.uniq {up : Bool} {prev : List (Nat × Nat)} {z w u : Nat × Nat} (h : Sp up prev z w) : Sp up prev z u → w = u := by
  induction h with
  | stop h0 =>
    intro k
    cases k with
    | stop _ => rfl
    | step h1 _ => exact absurd h1 h0
  | step h0 _ ih =>
    intro k
    cases k with
    | stop h1 => exact absurd h0 h1
    | step _ k2 => exact ih k2
theorem Sp.new {up : Bool} {prev : List (Nat × Nat)} {z w : Nat × Nat} (h : Sp up prev z w) : w ∉ prev := by
  induction h with
  | stop h => exact h
  | step _ _ ih => exact ih
def upB (z : Nat × Nat) : Bool := decide (fval z.1 ≤ 0)
/-- Each number with those before it. -/
def SepR (ms out : List (Nat × Nat)) : Prop := out.length = ms.length ∧ ∀ (i : Nat) (z w : Nat × Nat), ms[i]? = some z → out[i]? = some w → Sp (upB z) (out.take i) z w
theorem SepR.uniq {ms out out' : List (Nat × Nat)} (h : SepR ms out) (h' : SepR ms out') : out = out' := by
  have key : ∀ i, i ≤ ms.length → out.take i = out'.take i := by
    intro i
    induction i with
    | zero => intro _; simp
    | succ i ih =>
      intro hi
      have h1 := ih (by omega)
      obtain ⟨z, hz⟩ : ∃ z, ms[i]? = some z := ⟨_, List.getElem?_eq_getElem (by omega)⟩
      obtain ⟨w, hw⟩ : ∃ w, out[i]? = some w := ⟨_, List.getElem?_eq_getElem (by have := h.1; omega)⟩
      obtain ⟨u, hu⟩ : ∃ u, out'[i]? = some u := ⟨_, List.getElem?_eq_getElem (by have := h'.1; omega)⟩
      have a := h.2 i z w hz hw
      have b := h'.2 i z u hz hu
      rw [← h1] at b
      rw [List.take_succ, List.take_succ, h1, hw, hu, a.uniq b]
  have := key ms.length (Nat.le_refl _)
  rwa [List.take_of_length_le (by rw [h.1]; exact Nat.le_refl _), List.take_of_length_le (by rw [h'.1]; exact Nat.le_refl _)] at this
theorem SepR.snoc {ms out : List (Nat × Nat)} {z w : Nat × Nat} (h : SepR ms out) (hs : Sp (upB z) out z w) : SepR (ms ++ [z]) (out ++ [w]) := by
  refine ⟨by simp [h.1], fun i y u hy hu => ?_⟩
  by_cases hi : i < ms.length
  · rw [List.getElem?_append_left hi] at hy
    rw [List.getElem?_append_left (by rw [h.1]; exact hi)] at hu
    rw [List.take_append_of_le_length (by rw [h.1]; omega)]
    exact h.2 i y u hy hu
  · have hil := (List.getElem?_eq_some_iff.1 hy).1
    rw [List.length_append, List.length_singleton] at hil
    have : i = ms.length := by omega
    subst this
    rw [List.getElem?_append_right (Nat.le_refl _), Nat.sub_self] at hy
    rw [List.getElem?_append_right (by rw [h.1]; exact Nat.le_refl _), h.1, Nat.sub_self] at hu
    injection hy with hy
    injection hu with hu
    subst hy; subst hu
    rw [List.take_append_of_le_length (by rw [h.1]; exact Nat.le_refl _), List.take_of_length_le (by rw [h.1]; exact Nat.le_refl _)]
    exact hs
theorem SepR.nil : SepR [] [] := ⟨rfl, fun i z w h => by simp at h⟩
/-- Not far from the middle; a little further for each number. -/
def Sml (i : Nat) (z : Nat × Nat) : Prop := (fval z.1).natAbs ≤ 2 ^ 1074 + i * 2 ^ 1046
theorem Sml.le {i k : Nat} {z : Nat × Nat} (h : Sml i z) (hk : i ≤ k) : Sml k z := Nat.le_trans h (Nat.add_le_add_left (Nat.mul_le_mul_right _ hk) _)
end Go.Proofs.YtbllgmcpebifhaaGreatDoor.K
end
