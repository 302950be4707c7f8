/- Rounding keeps the order (plain). -/
import Derived.Test.YtbllgmcpebifhaaGreatDoorZSm
import Derived.Test.YtbllgmcpebifhaaGreatDoorZNg

section
namespace Go.Proofs.YtbllgmcpebifhaaGreatDoor.K
set_option exponentiation.threshold 40000
theorem re_mono {n m k : Nat} (h : n ≤ m) : re n k ≤ re m k := by
  unfold re
  have h1 := Nat.div_le_div_right (c := 2 ^ k) h
  have hn := Nat.div_add_mod n (2 ^ k)
  have hm := Nat.div_add_mod m (2 ^ k)
  generalize n / 2 ^ k = a at *
  generalize m / 2 ^ k = b at *
  generalize n % 2 ^ k = r at *
  generalize m % 2 ^ k = s at *
  generalize 2 ^ k = P at *
  by_cases e : a = b
  · subst e
    generalize P * a = z at *
    have h2 : r ≤ s := by omega
    split <;> split <;> omega
  · split <;> split <;> omega
/-- The place of the last bit that stays of n / 2 ^ 5000, and what n is rounded to. -/
def gr (n : Nat) : Nat := max (blen n - 53) 3926
def rd (n : Nat) : Nat := re n (gr n) * 2 ^ gr n
theorem rd_mono {n m : Nat} (h : n ≤ m) : rd n ≤ rd m := by
  have hb : blen n ≤ blen m := blen_le.2 (Nat.lt_of_le_of_lt h (blen_le.1 (Nat.le_refl _)))
  unfold rd
  by_cases e : gr n = gr m
  · rw [e]
    exact Nat.mul_le_mul_right _ (re_mono h)
  · have h1 : gr m = blen m - 53 ∧ gr n + 1 ≤ gr m ∧ blen n + 1 ≤ blen m ∧ 53 < blen m := by
      unfold gr at e ⊢; omega
    obtain ⟨h1, h2, h3, h4⟩ := h1
    have hm : 2 ^ (blen m - 1) ≤ m := Nat.le_of_not_lt fun hlt => by
      have := blen_le.2 hlt
      omega
    have e1 : 2 ^ (blen m - 1) = 2 ^ 52 * 2 ^ gr m := by
      rw [← Nat.pow_add, h1]; congr 1; omega
    have h5 : 2 ^ 52 * 2 ^ gr m ≤ re m (gr m) * 2 ^ gr m := by
      refine Nat.mul_le_mul_right _ ?_
      rw [e1] at hm
      have := re_mono (k := gr m) hm
      rwa [re_mul] at this
    refine Nat.le_trans ?_ h5
    rw [← e1]
    have hn : n < 2 ^ blen n := blen_le.1 (Nat.le_refl _)
    by_cases h6 : gr n ≤ blen n
    · have h7 : re n (gr n) ≤ 2 ^ (blen n - gr n) := re_le (by rw [← Nat.pow_add, Nat.sub_add_cancel h6]; omega)
      refine Nat.le_trans (Nat.mul_le_mul_right _ h7) ?_
      rw [← Nat.pow_add, Nat.sub_add_cancel h6]
      exact Nat.pow_le_pow_right (by omega) (by omega)
    · have h7 : re n (gr n) ≤ 1 := re_le (by rw [Nat.one_mul]; exact Nat.le_trans (Nat.le_of_lt hn) (Nat.pow_le_pow_right (by omega) (by omega)))
      refine Nat.le_trans (Nat.mul_le_mul_right _ h7) ?_
      rw [Nat.one_mul]
      exact Nat.pow_le_pow_right (by omega) (by omega)
def srd (a : Int) : Int := if a < 0 then -((rd a.natAbs : Nat) : Int) else ((rd a.natAbs : Nat) : Int)
theorem srd_mono {a b : Int} (h : a ≤ b) : srd a ≤ srd b := by
  unfold srd
  split <;> split
  · have := rd_mono (n := b.natAbs) (m := a.natAbs) (by omega)
    omega
  · omega
  · omega
  · have := rd_mono (n := a.natAbs) (m := b.natAbs) (by omega)
    omega
theorem blen_pw {s : Nat} (j : Nat) (hs : 0 < s) : blen (s * 2 ^ j) = blen s + j := by
  have h1 : s < 2 ^ blen s := blen_le.1 (Nat.le_refl _)
  have hp : 0 < 2 ^ j := Nat.pow_pos (by omega)
  have h2 : blen (s * 2 ^ j) ≤ blen s + j := blen_le.2 (by rw [Nat.pow_add]; exact Nat.mul_lt_mul_of_pos_right h1 hp)
  have h3 : 0 < blen s := Nat.pos_of_ne_zero fun h0 => by rw [h0] at h1; omega
  have h4 : ¬ blen (s * 2 ^ j) ≤ blen s - 1 + j := fun h => by
    have h5 := blen_le.1 h
    rw [Nat.pow_add] at h5
    have h6 := blen_le.2 (Nat.lt_of_mul_lt_mul_right h5)
    omega
  omega
theorem rd_of {s : Nat} {p q : Int} (hs : 0 < s) (hp : -5000 ≤ p) (hq : q = max ((blen s : Int) + p - 53) (-1074)) :
    rd (s * 2 ^ (p + 5000).toNat) = (if q ≤ p then s * 2 ^ (p - q).toNat else re s (q - p).toNat) * 2 ^ (q + 5000).toNat := by
  have hg : gr (s * 2 ^ (p + 5000).toNat) = (q + 5000).toNat := by
    unfold gr
    rw [blen_pw _ hs]
    omega
  unfold rd
  rw [hg]
  split
  · rename_i h
    rw [show (p + 5000).toNat = (p - q).toNat + (q + 5000).toNat by omega, Nat.pow_add, ← Nat.mul_assoc, re_mul]
  · rename_i h
    rw [show (q + 5000).toNat = (q - p).toNat + (p + 5000).toNat by omega, re_scale]
theorem re_cmp (s : Nat) {d : Nat} (hd : 0 < d) : re s d = s / 2 ^ d + if 2 ^ (d - 1) < s % 2 ^ d ∨ (2 ^ (d - 1) = s % 2 ^ d ∧ s / 2 ^ d % 2 = 1) then 1 else 0 := by
  unfold re
  have e : 2 ^ d = 2 * 2 ^ (d - 1) := by
    conv => lhs; rw [show d = d - 1 + 1 by omega]
    rw [Nat.pow_succ, Nat.mul_comm]
  generalize s / 2 ^ d = a
  generalize s % 2 ^ d = r
  generalize 2 ^ d = P at *
  generalize 2 ^ (d - 1) = H at *
  congr 1
  split <;> split <;> omega
theorem srd_of {v p q A : Int} {M : Nat} (hv : v ≠ 0) (hp : -5000 ≤ p) (hq : q = max ((blen v.natAbs : Int) + p - 53) (-1074)) (hM : M = if q ≤ p then v.natAbs * 2 ^ (p - q).toNat else re v.natAbs (q - p).toNat)
    (hA : A = if v < 0 then -(((M * 2 ^ (q + 1074).toNat : Nat)) : Int) else ((M * 2 ^ (q + 1074).toNat : Nat) : Int)) : srd (v * (2 ^ (p + 5000).toNat : Nat)) = A * (2 ^ 3926 : Nat) := by
  have h1 := rd_of (s := v.natAbs) (p := p) (q := q) (by omega) hp hq
  rw [← hM] at h1
  have hpos : (0 : Int) < ((2 ^ (p + 5000).toNat : Nat) : Int) := by
    have : 0 < 2 ^ (p + 5000).toNat := Nat.pow_pos (by omega)
    omega
  have h2 : M * 2 ^ (q + 5000).toNat = M * 2 ^ (q + 1074).toNat * 2 ^ 3926 := by
    rw [show (q + 5000).toNat = (q + 1074).toNat + 3926 by omega, Nat.pow_add, Nat.mul_assoc]
  have h3 : (v * ((2 ^ (p + 5000).toNat : Nat) : Int)).natAbs = v.natAbs * 2 ^ (p + 5000).toNat := by
    rw [Int.natAbs_mul, Int.natAbs_natCast]
  unfold srd
  rw [h3, h1, h2, hA]
  by_cases h : v < 0
  · rw [if_pos h, if_pos (Int.mul_neg_of_neg_of_pos h hpos), Int.neg_mul, Int.natCast_mul (M * 2 ^ (q + 1074).toNat)]
  · rw [if_neg h, if_neg (Int.not_lt.2 (Int.mul_nonneg (by omega) (by omega))), Int.natCast_mul (M * 2 ^ (q + 1074).toNat)]
/-- The compare of what is left with half a step. -/
def hc (s : Nat) (p q : Int) : Int := if q ≤ p then -1 else if s % 2 ^ (q - p).toNat < 2 ^ ((q - p).toNat - 1) then -1 else if s % 2 ^ (q - p).toNat = 2 ^ ((q - p).toNat - 1) then 0 else 1
theorem rb_cmp {s M0 : Nat} {p q : Int} (hlo : M0 = if q ≤ p then s * 2 ^ (p - q).toNat else s / 2 ^ (q - p).toNat) {v3 A1 A2 : Int} (h3 : v3 = (s : Int) * 2 ^ (p - min p q).toNat - (M0 : Int) * 2 ^ (q - min p q).toNat)
    (h1 : A1 = v3 * 2 ^ (min p q - min (min p q) (q - 1)).toNat) (h2 : A2 = (1 : Int) * 2 ^ ((q - 1) - min (min p q) (q - 1)).toNat) : (if A1 < A2 then (-1 : Int) else if A1 = A2 then 0 else 1) = hc s p q := by
  unfold hc
  by_cases h : q ≤ p
  · rw [if_pos h] at hlo ⊢
    rw [show min p q = q by omega, show (q - q).toNat = 0 by omega, hlo] at h3
    have : v3 = 0 := by rw [h3]; simp
    rw [this, Int.zero_mul] at h1
    have : 0 < A2 := by rw [h2, Int.one_mul]; exact Int.pow_pos (by omega)
    rw [if_pos (by omega)]
  · rw [if_neg h] at hlo ⊢
    rw [show min p q = p by omega, show (p - p).toNat = 0 by omega, hlo] at h3
    rw [show min p q = p by omega, show min p (q - 1) = p by omega, show (p - p).toNat = 0 by omega] at h1
    rw [show min p q = p by omega, show min p (q - 1) = p by omega, show (q - 1 - p).toNat = (q - p).toNat - 1 by omega, Int.one_mul] at h2
    have e := Nat.div_add_mod s (2 ^ (q - p).toNat)
    have e3 : v3 = ((s % 2 ^ (q - p).toNat : Nat) : Int) := by
      have k : (s : Int) * 2 ^ 0 = s := by simp
      have k2 : ((s / 2 ^ (q - p).toNat : Nat) : Int) * 2 ^ (q - p).toNat = ((2 ^ (q - p).toNat * (s / 2 ^ (q - p).toNat) : Nat) : Int) := by rw [Nat.mul_comm]; simp
      rw [k, k2] at h3
      omega
    have e1 : A1 = ((s % 2 ^ (q - p).toNat : Nat) : Int) := by rw [h1, e3]; simp
    have e2 : A2 = ((2 ^ ((q - p).toNat - 1) : Nat) : Int) := by rw [h2]; simp
    rw [e1, e2]
    generalize s % 2 ^ (q - p).toNat = r
    generalize 2 ^ ((q - p).toNat - 1) = H
    by_cases k1 : r < H
    · rw [if_pos k1, if_pos (by omega)]
    · rw [if_neg k1, if_neg (by omega)]
      by_cases k2 : r = H
      · rw [if_pos k2, if_pos (by omega)]
      · rw [if_neg k2, if_neg (by omega)]
/-- One more, where it is to be, is the rounding. -/
theorem rb_fin {s M0 M : Nat} {p q : Int} (hlo : M0 = if q ≤ p then s * 2 ^ (p - q).toNat else s / 2 ^ (q - p).toNat) (hM : M = M0 + if 0 < hc s p q ∨ (hc s p q = 0 ∧ M0 % 2 = 1) then 1 else 0) :
    M = if q ≤ p then s * 2 ^ (p - q).toNat else re s (q - p).toNat := by
  unfold hc at hM
  by_cases h : q ≤ p
  · simp only [if_pos h] at hlo hM ⊢
    rw [if_neg (by omega)] at hM
    omega
  · simp only [if_neg h] at hlo hM ⊢
    rw [re_cmp s (by omega)]
    rw [← hlo]
    generalize s % 2 ^ (q - p).toNat = r at *
    generalize 2 ^ ((q - p).toNat - 1) = H at *
    obtain ⟨c, hc⟩ : ∃ c : Int, (if r < H then (-1 : Int) else if r = H then 0 else 1) = c := ⟨_, rfl⟩
    have h3 : (c = -1 ∧ r < H) ∨ (c = 0 ∧ r = H) ∨ (c = 1 ∧ H < r) := by
      by_cases k1 : r < H
      · rw [if_pos k1] at hc; exact .inl ⟨hc.symm, k1⟩
      · rw [if_neg k1] at hc
        by_cases k2 : r = H
        · rw [if_pos k2] at hc; exact .inr (.inl ⟨hc.symm, k2⟩)
        · rw [if_neg k2] at hc; exact .inr (.inr ⟨hc.symm, by omega⟩)
    rw [hc] at hM
    clear hc
    rw [hM]
    congr 1
    split <;> split <;> omega
end Go.Proofs.YtbllgmcpebifhaaGreatDoor.K
end

section
/- The program's rounding: what it is for every number (the order stays). -/
namespace Go.Proofs.YtbllgmcpebifhaaGreatDoor.K
open Go Go.RowKit
set_option linter.all false
set_option maxRecDepth 4000
set_option maxHeartbeats 1000000
set_option exponentiation.threshold 40000

/-- A rounded float, and what it is. -/
def PRf (v p : Int) (R : List Own) (r : Value) (L' : List Own) (F' : List Fact) : Prop := ∃ y b, r = .tuple #[.float .f64 y, .bool b] ∧ y < 18446744073709551616 ∧
  (b = true → ∃ A, fv y = some A ∧ srd (v * (2 ^ (p + 5000).toNat : Nat)) = A * (2 ^ 3926 : Nat)) ∧ L' = R ∧ F' = []
theorem shl_low2 {s : Nat} (p q : Int) : (shl (s : Int) (p + (0 - q))).toNat = if q ≤ p then s * 2 ^ (p - q).toNat else s / 2 ^ (q - p).toNat := by
  unfold shl
  by_cases h : q ≤ p
  · rw [if_pos (by omega), if_pos h, show (p + (0 - q)).toNat = (p - q).toNat by omega]
    have e : (s : Int) * 2 ^ (p - q).toNat = ((s * 2 ^ (p - q).toNat : Nat) : Int) := by simp
    rw [e, Int.toNat_natCast]
  · rw [if_neg (by omega), if_neg h, show (-(p + (0 - q))).toNat = (q - p).toNat by omega]
    have e : (s : Int) / 2 ^ (q - p).toNat = ((s / 2 ^ (q - p).toNat : Nat) : Int) := by simp
    rw [e, Int.toNat_natCast]
theorem Bit0F_spec (x : Nat) (v : Int) (mx : Value) (R : List Own) (hx : oInt x v mx ∈ R) :
    Spec Tryz.prog 233 [ptr x, .int .i64 0] R [fDig mx v.natAbs] (PVal (.int .u64 ((v.natAbs % 2 : Nat) : Int)) R) := by
  refine enter Tryz.func233 Tryz.ntmps233 rfl (by kernel_rfl) zCon rfl fun G => ?_
  refine c_dig (mag := mx) zMem fun d hd => ?_
  refine c_isList (v := mx) zMem fun hsl => ?_
  obtain ⟨hd1, _, hd3⟩ := hd
  by_cases h0 : d.length = 0
  · have e0 : v.natAbs % 2 = 0 := by
      cases d with
      | nil => rw [← hd3]; rfl
      | cons x0 ds => simp at h0
    rw [e0]
    all_goals ((try refine zR2 ?_) <;> (repeat' (with_reducible first | refine And.intro ?_ ?_ | intro _)))
    all_goals (first | (exfalso; omega) | skip)
    refine e_res rfl zRes _ [] (fun _ h => h) (fun _ h => h.apart) fsub_nil ⟨?_, rfl, rfl⟩
    rfl
  · obtain ⟨x0, hg, hx0, e0⟩ : ∃ x0, d[0]? = some x0 ∧ (0 ≤ x0 ∧ x0 < 4294967296) ∧ ((v.natAbs % 2 : Nat) : Int) = x0 % 2 := by
      cases d with
      | nil => exact absurd rfl h0
      | cons x0 ds =>
        have hx0 := hd1 x0 (.head _)
        refine ⟨x0, rfl, hx0, ?_⟩
        rw [← hd3]
        have : vl 4294967296 (x0 :: ds) = x0.toNat + 4294967296 * vl 4294967296 ds := rfl
        rw [this]
        have hx0 : 0 ≤ x0 ∧ x0 < 4294967296 := hx0
        omega
    rw [e0]
    all_goals ((try refine zR2 ?_) <;> (repeat' (with_reducible first | refine And.intro ?_ ?_ | intro _)))
    all_goals (first | (exfalso; omega) | skip)
    refine l_shr rfl rfl rfl rfl (by decide) (z := x0) ?_ ?_
    · have : (2 : Int) ^ (min (0 : Int).toNat IntKind.u32.bits) = 1 := by decide
      exact (congrArg (Int.fdiv x0) this).trans (Int.fdiv_one x0)
    refine l_andA rfl rfl rfl rfl (z := x0 % 2) ?_ ?_
    · obtain ⟨y, rfl⟩ : ∃ y : Nat, x0 = (y : Int) := ⟨x0.toNat, by omega⟩
      have := u32_and_nat y 1 (by omega) (by omega)
      rw [Nat.and_one_is_mod] at this
      exact this.trans (by omega)
    all_goals ((try refine zR2 ?_) <;> (repeat' (with_reducible first | refine And.intro ?_ ?_ | intro _)))
    refine e_res rfl zRes _ [] (fun _ h => h) (fun _ h => h.apart) fsub_nil ⟨?_, rfl, rfl⟩
    rfl
theorem roundedF_spec (x : Nat) (v p : Int) (mx : Value) (R : List Own) (hx : oInt x v mx ∈ R) (hv : v % 2 = 1) (hl : v.natAbs < 2 ^ 4800) (hp : -5000 ≤ p ∧ p ≤ 5000) :
    Spec Tryz.prog 177 [vNum x p, .int .i64 53, .int .i64 (-1074), .int .i64 1024] R [fDig mx v.natAbs, fTz] (PRf v p R) := by
  refine enter Tryz.func177 Tryz.ntmps177 rfl (by kernel_rfl) zCon rfl fun G => ?_
  have hB : ∀ k : Nat, 150 ≤ k → v.natAbs < 4294967296 ^ k := fun k hk => Nat.lt_of_lt_of_le (by rw [two4800] at hl; exact hl) (Nat.pow_le_pow_right (by omega) hk)
  have hv0 : v ≠ 0 := by omega
  have hg0 : ¬ sgn v = 0 := fun h => hv0 (sgn_zero.1 h)
  have hbl : blen v.natAbs ≤ 4800 := blen_le.2 hl
  all_goals ((try refine zR2 ?_) <;> (repeat' (with_reducible first | refine And.intro ?_ ?_ | intro _)))
  refine l_callVA rfl zEvs rfl (Sign_spec x v mx _ (.tail _ hx)) zFsub ?_
  all_goals ((try refine zR2 ?_) <;> (repeat' (with_reducible first | refine And.intro ?_ ?_ | intro _)))
  all_goals first | (exfalso; contradiction) | skip
  rename_i b4 _
  obtain ⟨s, hs⟩ : ∃ s, s = v.natAbs := ⟨_, rfl⟩
  obtain ⟨q, hq⟩ : ∃ q, q = max ((blen s : Int) + p - 53) (-1074) := ⟨_, rfl⟩
  refine c_mid (κ := Unit) (fun _ => [(10, .int .i64 q), (4, ptr b4), (3, .int .i64 1024)]) (fun _ => .box b4 [ptr x, .int .i64 p] 111 :: R) (fun _ => [fDig mx v.natAbs, fTz]) ?_ ?_
  · refine c_draw ([10], []) [.box b4 [ptr x, .int .i64 p] 111] [0, 1, 3, 4, 6, 8, 2, 5, 7, 9, 10] (by kernel_rfl) (by kernel_rfl) ?_
    all_goals ((try refine zD2 ?_) <;> (repeat' (with_reducible first | refine And.intro ?_ ?_ | intro _)))
    refine l_callVA rfl zEvs rfl (BitLen_spec x v mx _ (.tail _ hx) (hB 2000 (by omega))) zFsub ?_
    rw [← hs] at hbl ⊢
    all_goals ((try refine zD2 ?_) <;> (repeat' (with_reducible first | refine And.intro ?_ ?_ | intro _)))
    exact e_out () zSub rfl zFsub
  intro _
  have hqb : -1074 ≤ q ∧ q ≤ 10000 ∧ (blen s : Int) + p - 53 ≤ q := by rw [← hs] at hbl; omega
  obtain ⟨hlo1, hlo2, _⟩ := shl_low p q hqb.2.2
  have hlo3 := shl_low2 (s := s) p q
  all_goals ((try refine zR2 ?_) <;> (repeat' (with_reducible first | refine And.intro ?_ ?_ | intro _)))
  refine c_mid (κ := Nat × Value × Nat) (fun k => [(10, .int .i64 q), (4, ptr b4), (3, .int .i64 1024), (11, ptr k.2.2)]) (fun k => .box k.2.2 [ptr k.1, .int .i64 p] 111 :: oInt k.1 (s : Int) k.2.1 :: .box b4 [ptr x, .int .i64 p] 111 :: R) (fun k => [fDig k.2.1 ((s : Int)).natAbs, fDig mx v.natAbs, fTz]) ?_ ?_
  · refine c_draw ([8], []) [.box b4 [ptr x, .int .i64 p] 111] [1, 2, 4, 5, 0, 3, 6, 7, 8] (by kernel_rfl) (by kernel_rfl) ?_
    all_goals ((try refine zD2 ?_) <;> (repeat' (with_reducible first | refine And.intro ?_ ?_ | intro _)))
    refine a_two (k := 7) [3, 6, 7, 8] [0, 3, 6, 8] rfl rfl (.inl (by decide +kernel)) rfl rfl ?_ ?_
    · all_goals ((try refine zD2 ?_) <;> (repeat' (with_reducible first | refine And.intro ?_ ?_ | intro _)))
      rename_i a
      refine a_two (k := 7) [6, 7, 8] [3, 6, 8] rfl rfl (.inl (by decide +kernel)) rfl rfl ?_ ?_
      · refine l_callIA rfl zEvs rfl (Abs_spec a x v false _ mx _ (.tail _ (.tail _ hx)) (hB 2000 (by omega))) zFsub fun ma => ?_
        rw [← hs]
        all_goals ((try refine zD2 ?_) <;> (repeat' (with_reducible first | refine And.intro ?_ ?_ | intro _)))
        rename_i b11
        refine ends_take (L' := .box b11 [ptr a, .int .i64 p] 111 :: oInt a (s : Int) ma :: .box b4 [ptr x, .int .i64 p] 111 :: R) zTake ?_
        exact e_out (a, ma, b11) zSub rfl zFsub
      · all_goals ((try refine zD2 ?_) <;> (repeat' (with_reducible first | refine And.intro ?_ ?_ | intro _)))
        rename_i b11
        refine l_callI rfl zEvs rfl (Abs_spec a x v false _ mx (.box b11 [.pointer none, .int .i64 0] 111 :: .box b4 [ptr x, .int .i64 p] 111 :: R) (.tail _ (.tail _ (.tail _ hx))) (hB 2000 (by omega))) zTake zFsub fun ma => ?_
        rw [List.append_nil, ← hs]
        all_goals ((try refine zD2 ?_) <;> (repeat' (with_reducible first | refine And.intro ?_ ?_ | intro _)))
        refine ends_take (L' := .box b11 [ptr a, .int .i64 p] 111 :: oInt a (s : Int) ma :: .box b4 [ptr x, .int .i64 p] 111 :: R) zTake ?_
        exact e_out (a, ma, b11) zSub rfl zFsub
    · all_goals ((try refine zD2 ?_) <;> (repeat' (with_reducible first | refine And.intro ?_ ?_ | intro _)))
      rename_i b11 a
      refine l_callIA rfl zEvs rfl (Abs_spec a x v false _ mx _ (.tail _ (.tail _ (.tail _ hx))) (hB 2000 (by omega))) zFsub fun ma => ?_
      rw [← hs]
      all_goals ((try refine zD2 ?_) <;> (repeat' (with_reducible first | refine And.intro ?_ ?_ | intro _)))
      refine ends_take (L' := .box b11 [ptr a, .int .i64 p] 111 :: oInt a (s : Int) ma :: .box b4 [ptr x, .int .i64 p] 111 :: R) zTake ?_
      exact e_out (a, ma, b11) zSub rfl zFsub
  · rintro ⟨a, ma, b11⟩
    clear hg0
    rw [← hs] at hl
    have hB : ∀ k : Nat, 150 ≤ k → ((s : Int)).natAbs < 4294967296 ^ k := fun k hk => by rw [Int.natAbs_natCast, hs]; exact hB k hk
    all_goals ((try refine zR2 ?_) <;> (repeat' (with_reducible first | refine And.intro ?_ ?_ | intro _)))
    refine l_callA rfl zEvs rfl (floor_spec a (s : Int) p (0 - q) ma _ zMem (hB 990 (by omega)) (by omega) (by omega)) zFsub ?_
    rintro _ L' F' ⟨lo, ml, rfl, rfl, rfl⟩
    generalize (shl (s : Int) (p + (0 - q))).toNat = M0 at hlo1 hlo2 hlo3
    rw [hlo1]
    clear hlo1
    have hM0 : ((M0 : Int)).natAbs < 4294967296 ^ 990 := by rw [Int.natAbs_natCast]; exact rb_a hlo2
    have hM900 : ((M0 : Int)).natAbs < 4294967296 ^ 900 := by rw [Int.natAbs_natCast]; exact Nat.lt_trans hlo2 (by decide +kernel)
    have hm1 := rb_b hl (show (p - min p q).toNat ≤ 6100 by omega)
    have hm2 := rb_c hlo2 (show (q - min p q).toNat ≤ 16000 by omega)
    all_goals ((try refine zR2 ?_) <;> (repeat' (with_reducible first | refine And.intro ?_ ?_ | intro _)))
    refine l_callA rfl zEvs rfl (minus_spec a lo (s : Int) (M0 : Int) p q ma ml _ zMem zMem (hB 990 (by omega)) hM0 (by omega) (by omega) hm1 hm2) zFsub ?_
    rintro _ L' F' ⟨a3, m3, rfl, rfl, rfl⟩
    have hv3 := rb_d hm1 hm2
    have hv30 : ∀ A1 A2 v3 : Int, v3 = (s : Int) * 2 ^ (p - min p q).toNat - (M0 : Int) * 2 ^ (q - min p q).toNat → _ → _ → _ := fun A1 A2 v3 h3 h1 h2 => rb_cmp (p := p) (q := q) hlo3 (v3 := v3) (A1 := A1) (A2 := A2) h3 h1 h2
    obtain ⟨v3, hv3e⟩ : ∃ v3, v3 = (s : Int) * 2 ^ (p - min p q).toNat - (M0 : Int) * 2 ^ (q - min p q).toNat := ⟨_, rfl⟩
    have hv31 := fun A1 A2 => hv30 A1 A2 v3 hv3e
    rw [← hv3e] at hv3 ⊢
    clear hv30 hv3e
    all_goals ((try refine zR2 ?_) <;> (repeat' (with_reducible first | refine And.intro ?_ ?_ | intro _)))
    rename_i b13
    refine c_mid (κ := { c : Int // c = hc s p q }) (fun k => [(10, .int .i64 q), (4, ptr b4), (3, .int .i64 1024), (12, ptr lo), (14, .int .i64 k.1)]) (fun _ => oInt lo (M0 : Int) ml :: .box b4 [ptr x, .int .i64 p] 111 :: R) (fun _ => [fDig ml ((M0 : Int)).natAbs, fDig mx v.natAbs, fTz]) ?_ ?_
    · refine c_draw ([6], []) [.box b13 [ptr a3, .int .i64 (min p q)] 111] [0, 2, 3, 1, 4, 5, 6] (by kernel_rfl) (by kernel_rfl) ?_
      all_goals ((try refine zD2 ?_) <;> (repeat' (with_reducible first | refine And.intro ?_ ?_ | intro _)))
      refine l_call rfl zEvs rfl (newBig_spec 1 (by omega)) zTake zFsub ?_
      rintro _ L' F' ⟨b1, m1, rfl, rfl, rfl⟩
      all_goals ((try refine zD2 ?_) <;> (repeat' (with_reducible first | refine And.intro ?_ ?_ | intro _)))
      refine l_callVA rfl zEvs rfl (compare_spec a3 b1 v3 1 (min p q) (q - 1) m3 m1 _ zMem zMem hv3 (by decide +kernel) (by omega) (by omega)) zFsub ?_
      have hc1 := hv31 _ _ rfl rfl
      generalize v3 * 2 ^ (min p q - min (min p q) (q - 1)).toNat = A1 at hc1 ⊢
      obtain ⟨A2, hA2⟩ : ∃ A2, A2 = (1 : Int) * 2 ^ ((q - 1) - min (min p q) (q - 1)).toNat := ⟨_, rfl⟩
      rw [← hA2] at hc1 ⊢
      rw [hc1]
      generalize hc s p q = c at hc1 ⊢
      all_goals ((try refine zD2 ?_) <;> (repeat' (with_reducible first | refine And.intro ?_ ?_ | intro _)))
      refine ends_take (L' := oInt lo (M0 : Int) ml :: .box b4 [ptr x, .int .i64 p] 111 :: R) zTake ?_
      exact e_out ⟨c, rfl⟩ zSub rfl zFsub
    · rintro ⟨c, hc⟩
      refine c_mid (κ := { k : Nat × Value // k.1 ≤ 2 ^ 53 ∧ k.1 = if q ≤ p then s * 2 ^ (p - q).toNat else re s (q - p).toNat }) (fun k => [(10, .int .i64 q), (4, ptr b4), (3, .int .i64 1024), (12, ptr lo)]) (fun k => oInt lo (k.1.1 : Int) k.1.2 :: .box b4 [ptr x, .int .i64 p] 111 :: R) (fun k => [fDig k.1.2 ((k.1.1 : Int)).natAbs, fDig mx v.natAbs, fTz]) ?_ ?_
      · have hR0 : c < 0 ∨ (c = 0 ∧ M0 % 2 = 0) → M0 ≤ 2 ^ 53 ∧ M0 = if q ≤ p then s * 2 ^ (p - q).toNat else re s (q - p).toNat := fun h => ⟨Nat.le_of_lt hlo2, rb_fin hlo3 (by rw [← hc, if_neg (by omega)]; rfl)⟩
        have hR1 : 0 < c ∨ (c = 0 ∧ M0 % 2 = 1) → M0 + 1 ≤ 2 ^ 53 ∧ M0 + 1 = if q ≤ p then s * 2 ^ (p - q).toNat else re s (q - p).toNat := fun h => ⟨hlo2, rb_fin hlo3 (by rw [← hc, if_pos h])⟩
        dsimp only at hc ⊢
        all_goals ((try refine zR2 ?_) <;> (repeat' (with_reducible first | refine And.intro ?_ ?_ | intro _)))
        all_goals first | (exfalso; omega) | skip
        · skip
          refine l_call rfl zEvs rfl (newBig_spec 1 (by omega)) zTake zFsub ?_
          rintro _ L' F' ⟨b1, m1, rfl, rfl, rfl⟩
          all_goals ((try refine zR2 ?_) <;> (repeat' (with_reducible first | refine And.intro ?_ ?_ | intro _)))
          refine l_call rfl zEvs rfl (Add_spec lo lo b1 (M0 : Int) 1 (decide ((M0 : Int) < 0)) ml ml m1 [oInt b1 1 m1] (.head _) (.tail _ (.head _)) hM900 (by decide +kernel)) zTake zFsub ?_
          rintro _ L' F' ⟨ml2, rfl, rfl, rfl⟩
          all_goals ((try refine zR2 ?_) <;> (repeat' (with_reducible first | refine And.intro ?_ ?_ | intro _)))
          refine ends_take (L' := oInt lo ((M0 + 1 : Nat) : Int) ml2 :: .box b4 [ptr x, .int .i64 p] 111 :: R) zTake ?_
          exact e_out ⟨(M0 + 1, ml2), hR1 (by omega)⟩ zSub rfl zFsub
        · refine l_callVA rfl zEvs rfl (Bit0F_spec lo (M0 : Int) ml _ zMem) zFsub ?_
          rw [Int.natAbs_natCast]
          all_goals ((try refine zR2 ?_) <;> (repeat' (with_reducible first | refine And.intro ?_ ?_ | intro _)))
          · skip
            refine l_call rfl zEvs rfl (newBig_spec 1 (by omega)) zTake zFsub ?_
            rintro _ L' F' ⟨b1, m1, rfl, rfl, rfl⟩
            all_goals ((try refine zR2 ?_) <;> (repeat' (with_reducible first | refine And.intro ?_ ?_ | intro _)))
            refine l_call rfl zEvs rfl (Add_spec lo lo b1 (M0 : Int) 1 (decide ((M0 : Int) < 0)) ml ml m1 [oInt b1 1 m1] (.head _) (.tail _ (.head _)) hM900 (by decide +kernel)) zTake zFsub ?_
            rintro _ L' F' ⟨ml2, rfl, rfl, rfl⟩
            all_goals ((try refine zR2 ?_) <;> (repeat' (with_reducible first | refine And.intro ?_ ?_ | intro _)))
            refine ends_take (L' := oInt lo ((M0 + 1 : Nat) : Int) ml2 :: .box b4 [ptr x, .int .i64 p] 111 :: R) zTake ?_
            exact e_out ⟨(M0 + 1, ml2), hR1 (by omega)⟩ zSub rfl zFsub
          · exact e_out ⟨(M0, ml), hR0 (by omega)⟩ zSub rfl zFsub
        · exact e_out ⟨(M0, ml), hR0 (.inl (by omega))⟩ zSub rfl zFsub
      · rintro ⟨⟨M, mM⟩, hM⟩
        dsimp only at hM ⊢
        have hM53 := hM.1
        have hMb : ((M : Int)).natAbs < 4294967296 ^ 2000 := by rw [Int.natAbs_natCast]; exact Nat.lt_of_le_of_lt hM53 (by decide +kernel)
        all_goals ((try refine zR2 ?_) <;> (repeat' (with_reducible first | refine And.intro ?_ ?_ | intro _)))
        refine l_callVA rfl zEvs rfl (BitLen_spec lo (M : Int) mM _ zMem hMb) zFsub ?_
        rw [Int.natAbs_natCast]
        have hbM : blen M ≤ 54 := blen_le.2 (Nat.lt_of_le_of_lt hM53 (by decide))
        all_goals ((try refine zR2 ?_) <;> (repeat' (with_reducible first | refine And.intro ?_ ?_ | intro _)))
        · exact e_resT rfl zRes (Lo := R) zTake fsub_nil ⟨0, false, rfl, by omega, fun h => (Bool.noConfusion h), rfl, rfl⟩
        · have hMi : -9223372036854775808 ≤ (M : Int) ∧ (M : Int) ≤ 9223372036854775807 := rb_f hM53
          refine l_callVA rfl zEvs rfl (Int64_spec lo (M : Int) mM _ zMem hMi) zFsub ?_
          have hfl := rb_g hM53 hqb.1 (by omega : ¬ 1024 < (blen M : Int) + q)
          have hy1 := ofInt_small M hM53
          have hy2 := ofInt_lt (M : Int)
          obtain ⟨y0, hy0⟩ : ∃ y0, y0 = floatOfInt .f64 (M : Int) := ⟨_, rfl⟩
          rw [← hy0] at hy1 hy2
          obtain ⟨j, hj⟩ : ∃ j : Nat, j = 1074 := ⟨_, rfl⟩
          rw [← hj] at hy1
          have hLd := Ldexp_spec y0 ((M : Int) * (2 ^ j : Nat)) ((M : Int) * (2 ^ (q + 1074).toNat : Nat)) q (q + 1074).toNat j hy2 hy1 (by rw [Int.mul_assoc, Int.mul_assoc, Int.mul_comm ((2 ^ j : Nat) : Int)]) (by omega) hfl (by omega)
          have hAe := fun A hA => srd_of (v := v) (p := p) (q := q) (A := A) (M := M) hv0 hp.1 (by rw [← hs]; exact hq) (by rw [← hs]; exact hM.2) hA
          obtain ⟨A, hA⟩ : ∃ A, A = (M : Int) * (2 ^ (q + 1074).toNat : Nat) := ⟨_, rfl⟩
          rw [← hA] at hLd hfl
          all_goals ((try refine zR2 ?_) <;> (repeat' (with_reducible first | refine And.intro ?_ ?_ | intro _)))
          rw [← hy0]
          refine l_call rfl zEvs rfl hLd zTake zFsub ?_
          rintro _ L' F' ⟨y, rfl, hy64, hyA, rfl, rfl⟩
          all_goals ((try refine zR2 ?_) <;> (repeat' (with_reducible first | refine And.intro ?_ ?_ | intro _)))
          refine l_callVA rfl zEvs rfl (Sign_spec x v mx _ (.tail _ (.tail _ hx))) zFsub ?_
          by_cases hneg : v < 0
          · have hsg : sgn v = -1 := by unfold sgn; rw [if_neg hv0, if_pos hneg]
            rw [hsg]
            all_goals ((try refine zR2 ?_) <;> (repeat' (with_reducible first | refine And.intro ?_ ?_ | intro _)))
            exact e_resT rfl zRes (Lo := R) zTake fsub_nil ⟨_, true, rfl, neg_lt hy64, fun _ => ⟨-A, fv_neg hy64 hyA, hAe _ (by rw [if_pos hneg, hA, Int.natCast_mul])⟩, rfl, rfl⟩
          · have hsg : sgn v = 1 := by unfold sgn; rw [if_neg hv0, if_neg hneg]
            rw [hsg]
            all_goals ((try refine zR2 ?_) <;> (repeat' (with_reducible first | refine And.intro ?_ ?_ | intro _)))
            exact e_resT rfl zRes (Lo := R) zTake fsub_nil ⟨_, true, rfl, hy64, fun _ => ⟨A, hyA, hAe _ (by rw [if_neg hneg, hA, Int.natCast_mul])⟩, rfl, rfl⟩
end Go.Proofs.YtbllgmcpebifhaaGreatDoor.K
end

section
/- The program's FloatOf: what it is for every number. -/
namespace Go.Proofs.YtbllgmcpebifhaaGreatDoor.K
open Go Go.RowKit Go.Lib
set_option linter.all false
set_option maxRecDepth 4000
set_option maxHeartbeats 1000000
set_option exponentiation.threshold 40000

theorem srd_zero (p : Int) : srd (0 * (2 ^ (p + 5000).toNat : Nat)) = 0 * (2 ^ 3926 : Nat) := by
  rw [Int.zero_mul, Int.zero_mul]; decide +kernel
theorem floatF_spec (x : Nat) (v p : Int) (mx : Value) (R : List Own) (hx : oInt x v mx ∈ R) (hn : Nrm v p) (hl : v.natAbs < 2 ^ 4800) (hp : -5000 ≤ p ∧ p ≤ 5000) :
    Spec Tryz.prog 105 [vNum x p] R [fDig mx v.natAbs, fTz] (PRf v p R) := by
  refine enter Tryz.func105 Tryz.ntmps105 rfl (by kernel_rfl) zCon rfl fun G => ?_
  all_goals ((try refine zR2 ?_) <;> (repeat' (with_reducible first | refine And.intro ?_ ?_ | intro _)))
  rcases hn with ⟨rfl, rfl⟩ | hv
  · refine l_callA rfl zEvs rfl (rounded0_spec x mx _ (.tail _ hx)) zFsub ?_
    rintro _ L' F' ⟨y, b, rfl, hy64, hb, rfl, rfl⟩
    all_goals ((try refine zR2 ?_) <;> (repeat' (with_reducible first | refine And.intro ?_ ?_ | intro _)))
    refine e_resT rfl zRes (Lo := R) zTake fsub_nil ⟨y, b, rfl, hy64, fun h => ?_, rfl, rfl⟩
    rcases hb with ⟨_, A, hA, _, hz⟩ | ⟨hb, _⟩
    · rw [hz rfl] at hA ⊢
      exact ⟨0, fv_zero, srd_zero 0⟩
    · rw [hb] at h; cases h
  · refine l_callA rfl zEvs rfl (roundedF_spec x v p mx _ (.tail _ hx) hv hl hp) zFsub ?_
    rintro _ L' F' ⟨y, b, rfl, hy64, hb, rfl, rfl⟩
    all_goals ((try refine zR2 ?_) <;> (repeat' (with_reducible first | refine And.intro ?_ ?_ | intro _)))
    exact e_resT rfl zRes (Lo := R) zTake fsub_nil ⟨y, b, rfl, hy64, hb, rfl, rfl⟩
/-- A float of an exact number, with its code: the rounding of the number. -/
def PFoF (v e : Int) (r : Value) (L' : List Own) (F' : List Fact) : Prop := ∃ y c, r = .tuple #[.float .f64 y, .int .i64 c] ∧ y < 18446744073709551616 ∧
  (c = 0 → ∃ A, fv y = some A ∧ srd (v * (2 ^ (e + 5000).toNat : Nat)) = A * (2 ^ 3926 : Nat)) ∧ L' = [] ∧ F' = []
theorem FloatOfF_spec (u : Value) (v e : Int) (hD : IsD (sgn v) e (limbs v.natAbs)) :
    Spec Tryz.prog 32 [vDyadic (sgn v) u e] [] [fList 1 (rInt .i64) u (limbs v.natAbs), fTz] (PFoF v e) := by
  refine enter Tryz.func32 Tryz.ntmps32 rfl (by kernel_rfl) zCon rfl fun G => ?_
  refine c_isList (v := u) zMem fun hsu => ?_
  obtain ⟨hn, hbig, he⟩ := isD_nrm hD
  have hID := IsDyadic_spec (sgn v) e u (limbs v.natAbs)
  rw [decide_eq_true hD] at hID
  all_goals (((try refine zR2 ?_) <;> (repeat' (with_reducible first | refine And.intro ?_ ?_ | intro _))) <;> (repeat' ((first | ((with_reducible apply l_callP); exact rfl; exact zEvs; exact rfl; (with_reducible apply hID); (case hF => exact zFsub); (try any_goals (refine propId ?_; omega)))) <;> ((try refine zR2 ?_) <;> (repeat' (with_reducible first | refine And.intro ?_ ?_ | intro _))))))
  refine l_call rfl zEvs rfl (dvalue_spec u v e hD) zTake zFsub ?_
  rintro _ L' F' ⟨a, ma, rfl, rfl, rfl⟩
  all_goals ((try refine zR2 ?_) <;> (repeat' (with_reducible first | refine And.intro ?_ ?_ | intro _)))
  refine l_callA rfl zEvs rfl (floatF_spec a v e ma _ zMem hn hbig he) zFsub ?_
  rintro _ L' F' ⟨y, b, rfl, hy64, hb, rfl, rfl⟩
  rcases b with _ | _
  · all_goals ((try refine zR2 ?_) <;> (repeat' (with_reducible first | refine And.intro ?_ ?_ | intro _)))
    exact e_resT rfl zRes (Lo := []) zTake fsub_nil ⟨0, 3, rfl, by omega, fun h => (by cases h), rfl, rfl⟩
  · all_goals ((try refine zR2 ?_) <;> (repeat' (with_reducible first | refine And.intro ?_ ?_ | intro _)))
    exact e_resT rfl zRes (Lo := []) zTake fsub_nil ⟨y, 0, rfl, hy64, fun _ => hb rfl, rfl, rfl⟩
/-- Floats of ordered numbers are ordered. -/
theorem PFoF_le {v e w f A B : Int} (hA : srd (v * (2 ^ (e + 5000).toNat : Nat)) = A * (2 ^ 3926 : Nat)) (hB : srd (w * (2 ^ (f + 5000).toNat : Nat)) = B * (2 ^ 3926 : Nat)) (h : v * (2 ^ (e + 5000).toNat : Nat) ≤ w * (2 ^ (f + 5000).toNat : Nat)) : A ≤ B := by
  have h1 := srd_mono h
  rw [hA, hB] at h1
  have h2 : (0 : Int) < ((2 ^ 3926 : Nat) : Int) := by
    have : 0 < 2 ^ 3926 := Nat.pow_pos (by omega)
    omega
  exact Int.le_of_mul_le_mul_right h1 h2
end Go.Proofs.YtbllgmcpebifhaaGreatDoor.K
end
