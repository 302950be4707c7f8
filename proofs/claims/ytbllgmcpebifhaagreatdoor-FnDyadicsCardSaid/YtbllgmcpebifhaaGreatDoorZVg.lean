/- Floats that are not too great (plain). -/
import Derived.Test.YtbllgmcpebifhaaGreatDoorZSm
import Derived.Test.YtbllgmcpebifhaaGreatDoorZSa

section
namespace Go.Proofs.YtbllgmcpebifhaaGreatDoor.K
open Go Go.RowKit Ieee
set_option linter.all false
set_option exponentiation.threshold 5000
set_option maxRecDepth 10000

theorem fv_nf (x : Nat) : fv (nf x) = fv x := by
  cases h : nanB x with
  | true =>
    rw [nf_nan h]
    have h1 : fv NAN = none := by decide +kernel
    rw [h1]
    cases hx : fv x with
    | none => rfl
    | some a => rw [fv_nonan hx] at h; cases h
  | false =>
    rw [nf_num h]
    unfold fv
    rw [read_mod]
theorem fv_w {e : Nat} (u : FW e) {a : Int} (h : fv e = some a) : fv u.1 = some a := by rw [← fv_nf, u.2.1]; exact h
/-- A float of a size below a power. -/
def Fb (K : Nat) (x : Nat) : Prop := ∃ A, fv x = some A ∧ A.natAbs < 2 ^ K
theorem Fb.mono {K J x : Nat} (h : Fb K x) (hk : K ≤ J) : Fb J x := by
  obtain ⟨A, h1, h2⟩ := h
  exact ⟨A, h1, Nat.lt_of_lt_of_le h2 (Nat.pow_le_pow_right (by omega) hk)⟩
theorem Fb.w {K e : Nat} (h : Fb K e) (u : FW e) : Fb K u.1 := by
  obtain ⟨A, h1, h2⟩ := h
  exact ⟨A, fv_w u h1, h2⟩
theorem write_fin (s : Bool) (mag : Nat) (place : Int) (T : Nat) (hT : T ≤ 2000) (h : mag ≠ 0 → place + (mag.log2 : Int) + 1022 ≤ T) : ∃ A : Int, fv (double.write (.number s mag place)) = some A ∧ A.natAbs ≤ 2 ^ (53 + T) := by
  by_cases hmag : mag = 0
  · subst hmag
    exact ⟨_, write_num s 0 place 0 (place + 1074).toNat (-(place + 1074)).toNat (by simp) (by omega) frep_zero, by cases s <;> simp⟩
  · have h := h hmag
    obtain ⟨j, hj, hj2⟩ : ∃ j : Nat, max (place + (mag.log2 : Int) - (double.fractionBits : Nat)) double.leastPlace = (j : Int) - 1074 ∧ (j : Int) = max (place + (mag.log2 : Int) - 52 + 1074) 0 :=
      ⟨(max (place + (mag.log2 : Int) - 52) (-1074) + 1074).toNat, by rw [lp, show double.fractionBits = 52 from rfl]; omega, by omega⟩
    have hjT : j ≤ T := by omega
    have hup : mag < 2 ^ (mag.log2 + 1) := (Nat.log2_lt hmag).1 (Nat.lt_succ_self _)
    have hlow : 2 ^ mag.log2 ≤ mag := (Nat.le_log2 hmag).1 (Nat.le_refl _)
    obtain ⟨kept, hk⟩ : ∃ kept, kept = Toward.even.cut s (mag <<< (place - ((j : Int) - 1074)).toNat) ((j : Int) - 1074 - place).toNat := ⟨_, rfl⟩
    have hkr : kept = re (mag * 2 ^ (place - ((j : Int) - 1074)).toNat) ((j : Int) - 1074 - place).toNat := by rw [hk, cut_re, Nat.shiftLeft_eq]
    have hb : kept ≤ 2 ^ 53 ∧ (0 < j → 2 ^ 52 ≤ kept) := by
      rw [hkr]
      by_cases hp : (j : Int) - 1074 ≤ place
      · obtain ⟨x, hx⟩ : ∃ x : Nat, x = (place - ((j : Int) - 1074)).toNat := ⟨_, rfl⟩
        rw [show ((j : Int) - 1074 - place).toNat = 0 by omega, re_zero, ← hx]
        constructor
        · refine Nat.le_of_lt (Nat.lt_of_lt_of_le (Nat.mul_lt_mul_of_pos_right hup (Nat.pow_pos (by omega))) ?_)
          rw [← Nat.pow_add]
          exact Nat.pow_le_pow_right (by omega) (by omega)
        · intro h0
          refine Nat.le_trans ?_ (Nat.mul_le_mul_right _ hlow)
          rw [← Nat.pow_add]
          exact Nat.pow_le_pow_right (by omega) (by omega)
      · obtain ⟨y, hy⟩ : ∃ y : Nat, y = ((j : Int) - 1074 - place).toNat := ⟨_, rfl⟩
        rw [show (place - ((j : Int) - 1074)).toNat = 0 by omega, Nat.pow_zero, Nat.mul_one, ← hy]
        constructor
        · refine re_le ?_
          rw [← Nat.pow_add]
          exact Nat.le_of_lt (Nat.lt_of_lt_of_le hup (Nat.pow_le_pow_right (by omega) (by omega)))
        · intro h0
          have : 2 ^ 52 ≤ mag / 2 ^ y := by
            refine (Nat.le_div_iff_mul_le (Nat.pow_pos (by omega))).2 ?_
            rw [← Nat.pow_add]
            exact Nat.le_trans (Nat.pow_le_pow_right (by omega) (by omega)) hlow
          unfold re
          omega
    obtain ⟨hk1, hk2⟩ := hb
    clear hkr
    have h53 : (2 : Nat) ^ 53 = 9007199254740992 := by decide
    have h52 : (2 : Nat) ^ 52 = 4503599627370496 := by decide
    refine ⟨if s then -((kept * 2 ^ j : Nat) : Int) else ((kept * 2 ^ j : Nat) : Int), ?_, ?_⟩
    · unfold Format.write Format.nearest
      dsimp only
      rw [if_neg hmag]
      simp only [hj]
      rw [← hk, lp, bn, ir, show ((j : Int) - 1074 - -1074).toNat = j by omega]
      have : j * 4503599627370496 + kept ≤ 9218868437227405312 := by omega
      rw [Nat.min_eq_left this]
      by_cases hk : kept < 2 ^ 53
      · exact read_word_num hk (by omega) hk2 rfl
      · have hke : kept = 9007199254740992 := by omega
        have e1 : j * 4503599627370496 + kept = (j + 1) * 4503599627370496 + 4503599627370496 := by omega
        rw [e1]
        refine read_word_num (by omega) (by omega) (fun _ => by omega) ?_
        rw [hke, Nat.pow_succ]
        generalize 2 ^ j = g
        omega
    · have e : (if s = true then -((kept * 2 ^ j : Nat) : Int) else ((kept * 2 ^ j : Nat) : Int)).natAbs = kept * 2 ^ j := by
        cases s
        · rw [if_neg (by simp), Int.natAbs_natCast]
        · rw [if_pos rfl, Int.natAbs_neg, Int.natAbs_natCast]
      rw [e, Nat.pow_add]
      exact Nat.mul_le_mul hk1 (Nat.pow_le_pow_right (by omega) hjT)
theorem quo_fin {x y : Nat} {a b : Int} (hx : fv x = some a) (hy : fv y = some b) (K t : Nat) (ha : a.natAbs < 2 ^ K) (hb : 2 ^ (1074 + t) ≤ b.natAbs) (hK : 53 + t ≤ K) (hK2 : K ≤ 2000) : ∃ A : Int, fv (fop .quo x y) = some A ∧ A.natAbs ≤ 2 ^ (K - t) := by
  obtain ⟨s, m, i, hrx, hae, hi, hm53, _⟩ := fv_num hx
  obtain ⟨s2, n, j, hry, hbe, hj, hn53, _⟩ := fv_num hy
  have ha' : a.natAbs = m * 2 ^ (i + 1074).toNat := by rw [hae, signed_abs]
  have hb' : b.natAbs = n * 2 ^ (j + 1074).toNat := by rw [hbe, signed_abs]
  rw [ha'] at ha
  rw [hb'] at hb
  have hn0 : n ≠ 0 := fun h => by
    rw [h, Nat.zero_mul] at hb
    have := Nat.pow_pos (a := 2) (n := 1074 + t) (by omega)
    omega
  have e : fop .quo x y = (((double.read x).quotient (double.fractionBits + 2) (double.read y)).map double.write).getD NAN := rfl
  rw [e, hrx, hry]
  unfold Datum.quotient
  dsimp only
  rw [if_neg hn0]
  obtain ⟨more, hmore⟩ : ∃ more, more = double.fractionBits + 2 + n.log2 - m.log2 := ⟨_, rfl⟩
  rw [← hmore]
  have hml : m.log2 ≤ 52 := by
    by_cases h0 : m = 0
    · subst h0; decide
    · have := (Nat.log2_lt h0).2 hm53; omega
  have hnu : n < 2 ^ (n.log2 + 1) := (Nat.log2_lt hn0).1 (Nat.lt_succ_self _)
  have hnl : 2 ^ n.log2 ≤ n := (Nat.le_log2 hn0).1 (Nat.le_refl _)
  have hm2 : more = 54 + n.log2 - m.log2 := hmore
  have hj2 : (t : Int) ≤ j + n.log2 := by
    have h1 : 2 ^ (1074 + t) < 2 ^ (n.log2 + 1 + (j + 1074).toNat) := by
      refine Nat.lt_of_le_of_lt hb ?_
      rw [Nat.pow_add 2 (n.log2 + 1)]
      exact Nat.mul_lt_mul_of_pos_right hnu (Nat.pow_pos (by omega))
    have := (Nat.pow_lt_pow_iff_right (a := 2) (by omega)).1 h1
    omega
  obtain ⟨A, h1, h2⟩ := write_fin (s ^^ s2) (2 * (m <<< more / n) + (m <<< more % n != 0).toNat) (i - j - more - 1) (K - t - 53) (by omega) (fun hmag => by
    have hm0 : m ≠ 0 := fun h => hmag (by subst h; simp)
    have hmu : m < 2 ^ (m.log2 + 1) := (Nat.log2_lt hm0).1 (Nat.lt_succ_self _)
    have hmlw : 2 ^ m.log2 ≤ m := (Nat.le_log2 hm0).1 (Nat.le_refl _)
    have hi2 : (m.log2 : Int) + i + 1074 < K := by
      have h1 : 2 ^ (m.log2 + (i + 1074).toNat) < 2 ^ K := by
        refine Nat.lt_of_le_of_lt ?_ ha
        rw [Nat.pow_add]
        exact Nat.mul_le_mul_right _ hmlw
      have := (Nat.pow_lt_pow_iff_right (a := 2) (by omega)).1 h1
      omega
    have hq : m <<< more / n < 2 ^ 55 := by
      refine Nat.div_lt_of_lt_mul ?_
      rw [Nat.shiftLeft_eq]
      have h1 : m * 2 ^ more < 2 ^ (m.log2 + 1) * 2 ^ more := Nat.mul_lt_mul_of_pos_right hmu (Nat.pow_pos (by omega))
      have h2 : 2 ^ (m.log2 + 1) * 2 ^ more = 2 ^ n.log2 * 2 ^ 55 := by
        rw [← Nat.pow_add, ← Nat.pow_add]
        congr 1
        omega
      exact Nat.lt_of_lt_of_le h1 (by rw [h2]; exact Nat.mul_le_mul_right _ hnl)
    have hl : (2 * (m <<< more / n) + (m <<< more % n != 0).toNat).log2 < 56 := (Nat.log2_lt hmag).2 (by
      have := Bool.toNat_le (m <<< more % n != 0)
      omega)
    generalize (2 * (m <<< more / n) + (m <<< more % n != 0).toNat).log2 = l2 at hl ⊢
    omega)
  refine ⟨A, h1, ?_⟩
  rw [show 53 + (K - t - 53) = K - t by omega] at h2
  exact h2
/-- A power of two, halved or doubled. -/
theorem Fb.half {K x : Nat} (h : Fb K x) (hK : 54 ≤ K) (hK2 : K ≤ 2000) : Fb K (fop .quo x 4611686018427387904) := by
  obtain ⟨A, h1, h2⟩ := h
  obtain ⟨B, h3, h4⟩ := quo_fin h1 two_fv K 1 h2 (by
    have e : ((2 : Int) * ((2 ^ 1074 : Nat) : Int)).natAbs = 2 * 2 ^ 1074 := by rw [Int.natAbs_mul, Int.natAbs_natCast]; rfl
    rw [e, Nat.pow_succ, Nat.mul_comm]
    exact Nat.le_refl _) (by omega) hK2
  exact ⟨B, h3, Nat.lt_of_le_of_lt h4 (Nat.pow_lt_pow_right (by omega) (by omega))⟩
theorem Fb.dbl {K x : Nat} (h : Fb K x) (hK : K < 2098) : Fb (K + 1) (fop .mul x 4611686018427387904) := by
  obtain ⟨A, h1, h2⟩ := h
  obtain ⟨r, h3, h4, _⟩ := dbl_step h1
  have e : fop .mul x 4611686018427387904 = (double.mul x 4611686018427387904).getD NAN := rfl
  have e2 : (2 * A).natAbs = 2 * A.natAbs := by rw [Int.natAbs_mul]; rfl
  have hlt : 2 * A.natAbs < 2 ^ (K + 1) := by rw [Nat.pow_succ]; omega
  rw [e, h3]
  refine ⟨2 * A, h4 ?_, by rw [e2]; exact hlt⟩
  rw [e2]
  obtain ⟨m, k, hmk, hm, _⟩ := fv_rep h1
  have e3 : 2 * A.natAbs = m * 2 ^ (k + 1) := by rw [hmk, Nat.pow_succ]; simp only [Nat.mul_comm, Nat.mul_left_comm]
  rw [e3]
  refine frep_of m (k + 1) (Nat.le_of_lt hm) ?_
  rw [← e3]
  exact Nat.lt_of_lt_of_le hlt (Nat.pow_le_pow_right (by omega) (by omega))
theorem fb_add {K J x y : Nat} (hx : Fb K x) (hy : Fb J y) (hK : 53 ≤ K) (hJ : J + 2 ≤ K) (hK2 : K ≤ 2000) : Fb (K + 1) (fop .add x y) := by
  obtain ⟨a, h1, h2⟩ := hx
  obtain ⟨b, h3, h4⟩ := hy
  have e1 : 2 ^ (K + 1) = 2 * 2 ^ K := by rw [Nat.pow_succ, Nat.mul_comm]
  have e2 : 2 ^ K = 4 * 2 ^ (K - 2) := by
    conv => lhs; rw [show K = K - 2 + 2 by omega]
    rw [Nat.pow_add, Nat.mul_comm]
  have e3 : 2 ^ J ≤ 2 ^ (K - 2) := Nat.pow_le_pow_right (by omega) (by omega)
  have e4 : 2 ^ (K - 52) ≤ 2 ^ (K - 2) := Nat.pow_le_pow_right (by omega) (by omega)
  obtain ⟨c, h5, _, h6, h7⟩ := add_near h1 h3 (K - 52) (by omega) (by rw [show 53 + (K - 52) = K + 1 by omega]; omega)
  exact ⟨c, h5, by omega⟩
theorem fb_int (n : Int) (k : Nat) (h : n.natAbs < 2 ^ k) (hk : k ≤ 53) : Fb (k + 1074) (floatOfInt .f64 n) := by
  refine ⟨_, ofInt_exact n (Nat.lt_of_lt_of_le h (Nat.pow_le_pow_right (by omega) hk)), ?_⟩
  rw [natAbs_pw, Nat.pow_add]
  exact Nat.mul_lt_mul_of_pos_right h (Nat.pow_pos (by omega))
theorem fb_neg {K x : Nat} (h : Fb K x) (h64 : x < 18446744073709551616) : Fb K (fneg x) := by
  obtain ⟨A, h1, h2⟩ := h
  have h3 : fv (Op.negFloat .f64 x) = some (-A) := fv_neg h64 h1
  exact ⟨-A, by unfold fneg; rw [fv_nf]; exact h3, by rw [Int.natAbs_neg]; exact h2⟩
theorem fb_quo {K x : Nat} (n : Int) (h : Fb K x) (hn : 1 ≤ n) (hn2 : n < 9007199254740992) (hK : 53 ≤ K) (hK2 : K ≤ 2000) : Fb (K + 1) (fop .quo x (floatOfInt .f64 n)) := by
  obtain ⟨A, h1, h2⟩ := h
  have hp : 0 < 2 ^ 1074 := Nat.pow_pos (by omega)
  obtain ⟨B, h3, h4⟩ := quo_fin h1 (ofInt_exact n (by omega)) K 0 h2 (by rw [natAbs_pw]; exact Nat.le_mul_of_pos_left _ (by omega)) (by omega) hK2
  exact ⟨B, h3, Nat.lt_of_le_of_lt h4 (Nat.pow_lt_pow_right (by omega) (by omega))⟩
theorem fb_mul (n k : Int) (h : n.natAbs < 2 ^ 20) (hk : k.natAbs ≤ 2 ^ 20) : Fb 1115 (fop .mul (floatOfInt .f64 n) (floatOfInt .f64 k)) := by
  have e1 := ofInt_exact n (Nat.lt_of_lt_of_le h (by decide))
  have e2 := ofInt_exact k (Nat.lt_of_le_of_lt hk (by decide))
  have hnk : (n * k).natAbs < 2 ^ 41 := by
    rw [Int.natAbs_mul, show (2 : Nat) ^ 41 = 2 ^ 20 * 2 ^ 21 by decide]
    exact Nat.mul_lt_mul_of_lt_of_le h (Nat.le_trans hk (by decide)) (by decide)
  have hR : FRep (n * k * (2 ^ 1074 : Nat)).natAbs := by
    rw [natAbs_pw]
    exact ⟨_, _, rfl, Nat.lt_of_lt_of_le hnk (by decide), by omega⟩
  refine ⟨_, fop_mul_exact e1 e2 (c := n * k * (2 ^ 1074 : Nat)) (by simp only [Int.mul_assoc, Int.mul_left_comm]) hR, ?_⟩
  rw [natAbs_pw, show 1115 = 41 + 1074 by omega, Nat.pow_add]
  exact Nat.mul_lt_mul_of_pos_right hnk (Nat.pow_pos (by omega))
end Go.Proofs.YtbllgmcpebifhaaGreatDoor.K
end

section
/- The draws: finite floats. -/
namespace Go.Proofs.YtbllgmcpebifhaaGreatDoor.K
open Go Go.RowKit
set_option linter.all false
set_option maxRecDepth 4000
set_option maxHeartbeats 1000000
set_option exponentiation.threshold 5000

abbrev FinW : Type := {r : Nat // r < 18446744073709551616 ∧ ∃ A, fv r = some A}
abbrev PSN (b : Nat) (vc : Value) (N : Nat) : Value → List Own → List Fact → Prop := PM (fun i : FinW × Seed N => .float .f64 i.1.1) fun i => [oSrc b vc i.2]
def ScI (y : Nat) (j : Int) : Prop := y < 18446744073709551616 ∧ InI j ∧ ∃ J : Nat, Fb J y ∧ 54 ≤ J ∧ (J : Int) + j ≤ 2098 ∧ (j < 0 → J ≤ 2000)
theorem ScI.up {y : Nat} {j : Int} (h : ScI y j) (hj : 0 < j) (u : FW (fop .mul y 4611686018427387904)) : ScI u.1 (j - 1) := by
  obtain ⟨h1, h2, J, h3, h4, h5, h6⟩ := h
  unfold InI at h2
  exact ⟨u.lt, by unfold InI; omega, J + 1, (h3.dbl (by omega)).w u, by omega, by omega, fun _ => by omega⟩
theorem ScI.down {y : Nat} {j : Int} (h : ScI y j) (hj : j < 0) (u : FW (fop .quo y 4611686018427387904)) : ScI u.1 (j + 1) := by
  obtain ⟨h1, h2, J, h3, h4, h5, h6⟩ := h
  unfold InI at h2
  exact ⟨u.lt, by unfold InI; omega, J, (h3.half h4 (h6 hj)).w u, h4, by omega, fun _ => h6 hj⟩
theorem ScI.fin {y : Nat} {j : Int} (h : ScI y j) : ∃ A, fv y = some A := by
  obtain ⟨h1, h2, J, ⟨A, h3, _⟩, _⟩ := h
  exact ⟨A, h3⟩
theorem l01ScaleF_spec (x : Nat) (k : Int) (hk : ScI x k) : Spec Tryz.prog 72 [.float .f64 x, .int .i64 k] [] [] (PM (fun u : FinW => .float .f64 u.1) fun _ => []) := by
  refine enter Tryz.func72 Tryz.ntmps72 rfl (by kernel_rfl) zCon rfl fun G => ?_
  all_goals ((try refine zR3 ?_) <;> (repeat' (with_reducible first | refine And.intro ?_ ?_ | intro _)))
  refine c_while (ι := {s : Nat × Int // ScI s.1 s.2}) (κ := {s : Nat × Int // ScI s.1 s.2}) (fun s => [(0, .float .f64 s.1.1), (1, .int .i64 s.1.2)]) (fun _ => []) (fun _ => []) (fun s => s.1.2.toNat)
    (fun s => [(0, .float .f64 s.1.1), (1, .int .i64 s.1.2)]) (fun _ => []) (fun _ => []) ⟨(x, k), hk⟩ (fun _ _ s => s.start zSub zRfl zFsub) ?_ ?_
  · rintro ⟨⟨y, j⟩, hj⟩
    have hj2 := hj.2.1
    unfold InI at hj2
    dsimp only at hj hj2 ⊢
    all_goals ((try refine zR3 ?_) <;> (repeat' (with_reducible first | refine And.intro ?_ ?_ | intro _)))
    · rename_i h0 u
      refine e_again ⟨(_, j - 1), hj.up (by omega) u⟩ (by dsimp only; omega) zSub rfl (fun _ h => h)
    · exact e_out ⟨(y, j), hj⟩ zSub rfl (fun _ h => h)
  · rintro ⟨⟨y, j⟩, hj⟩
    dsimp only at hj ⊢
    all_goals ((try refine zR3 ?_) <;> (repeat' (with_reducible first | refine And.intro ?_ ?_ | intro _)))
    refine c_while (ι := {s : Nat × Int // ScI s.1 s.2}) (κ := FinW) (fun s => [(0, .float .f64 s.1.1), (1, .int .i64 s.1.2)]) (fun _ => []) (fun _ => []) (fun s => (-s.1.2).toNat)
      (fun s => [(0, .float .f64 s.1)]) (fun _ => []) (fun _ => []) ⟨(y, j), hj⟩ (fun _ _ s => s.start zSub zRfl zFsub) ?_ ?_
    · rintro ⟨⟨y, j⟩, hj⟩
      have hj2 := hj.2.1
      unfold InI at hj2
      dsimp only at hj hj2 ⊢
      all_goals ((try refine zR3 ?_) <;> (repeat' (with_reducible first | refine And.intro ?_ ?_ | intro _)))
      · rename_i h0 u
        refine e_again ⟨(_, j + 1), hj.down (by omega) u⟩ (by dsimp only; omega) zSub rfl (fun _ h => h)
      · exact e_out ⟨y, hj.1, hj.fin⟩ zSub rfl (fun _ h => h)
    · intro y
      all_goals ((try refine zR3 ?_) <;> (repeat' (with_reducible first | refine And.intro ?_ ?_ | intro _)))
      exact e_pm ⟨y.1, y.2⟩ rfl zRes .nil rfl
def p999 (z : Int) : Prop := -2000 ≤ z ∧ z ≤ 999
theorem sci_of {y : Nat} {k : Int} (h64 : y < 18446744073709551616) (h : Fb 1099 y) (hk : p999 k) : ScI y k := by
  unfold p999 at hk
  exact ⟨h64, by unfold InI; omega, 1099, h, by omega, by omega, fun _ => by omega⟩
theorem fv_24 : fv 4715268809856909312 = some ((16777216 : Int) * (2 ^ 1074 : Nat)) := by decide +kernel
theorem fb_bits (i j : NextR 16777216) (u : FW (fop .quo (floatOfInt .f64 j.1) 4715268809856909312)) (v : FW (fop .add (floatOfInt .f64 i.1) u.1)) : Fb 1099 v.1 := by
  have hi := i.2.2.2 (by decide)
  have hj := j.2.2.2 (by decide)
  have h1 : Fb 1098 (floatOfInt .f64 i.1) := fb_int i.1 24 (by have := i.2.1; omega) (by omega)
  obtain ⟨A, h2, h3⟩ : Fb 1098 (floatOfInt .f64 j.1) := fb_int j.1 24 (by have := j.2.1; omega) (by omega)
  obtain ⟨B, h4, h5⟩ := quo_fin h2 fv_24 1098 24 h3 (by rw [natAbs_pw, Nat.pow_add, Nat.mul_comm]; exact Nat.le_refl _) (by omega) (by omega)
  have h6 : Fb 1075 u.1 := ⟨B, fv_w u h4, Nat.lt_of_le_of_lt h5 (Nat.pow_lt_pow_right (by omega) (by omega))⟩
  exact (fb_add h1 h6 (by omega) (by omega) (by omega)).w v
theorem p999_60 (i : NextR 60) : p999 (IntKind.i64.wrap (i.1 - 40)) := by
  have h0 := i.2.1
  have h1 := i.2.2.2 (by decide)
  unfold p999
  rw [IntKind.wrap_i64]
  omega
theorem p999_2080 (i : NextR 2080) : p999 (IntKind.i64.wrap (i.1 - 1080)) := by
  have h0 := i.2.1
  have h1 := i.2.2.2 (by decide)
  unfold p999
  rw [IntKind.wrap_i64]
  omega
theorem l01BitsF_spec (b : Nat) (vc : Value) (code : List Int) (hb : Bytes code) (hl : code.length ≤ 100000) (s : Seed code.length) : Spec Tryz.prog 261 [pt b] [oSrc b vc s] [fCode vc code] (PSN b vc code.length) := by
  refine enter Tryz.func261 Tryz.ntmps261 rfl (by kernel_rfl) zCon rfl fun G => ?_
  have hN := l01Next_spec b vc code hb hl
  all_goals (((try refine zR3 ?_) <;> (repeat' (with_reducible first | refine And.intro ?_ ?_ | intro _))) <;> (repeat' ((first | ((with_reducible apply l_callM); exact rfl; exact rfl; exact zEvs; exact rfl; (apply hN); (case hL => exact zTake); (case hF => exact zFsub); (try any_goals (refine propId ?_; first | omega | exact zLt)); (with_reducible intro _)) | (refine l_callM rfl rfl zEvs rfl (l01ScaleF_spec _ _ ?_) zTake zFsub (fun _ => ?_)) | (exact sci_of zLt (fb_bits _ _ _ _) (Subtype.property _)) | (exact sci_of zLt ((fb_neg (fb_bits _ _ _ _) zLt).w _) (Subtype.property _)) | (refine l_pickI p999 b vc code hb hl rfl rfl zEvs rfl rfl rfl (by repeat (first | exact PL.nil | refine PL.cons (by first | exact p999_60 _ | exact p999_2080 _ | exact (show _ ∧ _ from by decide)) ?_)) rfl rfl (fun _ => rfl) (fun _ => rfl) (fun _ => zEvs) rfl zTake zMem fun _ _ => ?_)) <;> ((try refine zR3 ?_) <;> (repeat' (with_reducible first | refine And.intro ?_ ?_ | intro _))))))
  all_goals exact e_pm (_, _) rfl zRes (.cons .head .nil) rfl
theorem fin_int (i : NextR 21) : ∃ A, fv (floatOfInt .f64 (IntKind.i64.wrap (i.1 - 10))) = some A := by
  have h0 := i.2.1
  have h1 := i.2.2.2 (by decide)
  have e : IntKind.i64.wrap (i.1 - 10) = i.1 - 10 := by rw [IntKind.wrap_i64]; omega
  rw [e]
  exact ⟨_, ofInt_exact _ (Nat.lt_of_le_of_lt (m := 100) (by omega) (by decide))⟩
def pq (z : Int) : Prop := 1 ≤ z ∧ z ≤ 1048576
theorem fin_quo (i : NextR 257) (p : {x : Int // pq x}) (u : FW (fop .quo (floatOfInt .f64 (IntKind.i64.wrap (i.1 - 128))) (floatOfInt .f64 p.1))) : ∃ A, fv u.1 = some A := by
  have h0 := i.2.1
  have h1 := i.2.2.2 (by decide)
  have hp := p.2
  unfold pq at hp
  have e : IntKind.i64.wrap (i.1 - 128) = i.1 - 128 := by rw [IntKind.wrap_i64]; omega
  obtain ⟨A, h2, _⟩ := fb_quo p.1 (fb_int (i.1 - 128) 8 (by omega) (by omega)) hp.1 (by omega) (by omega) (by omega)
  rw [← e] at h2
  exact ⟨A, fv_w u h2⟩
theorem fin_mul (i : NextR 2000001) (p : {x : Int // pq x}) (u : FW (fop .mul (floatOfInt .f64 (IntKind.i64.wrap (i.1 - 1000000))) (floatOfInt .f64 p.1))) : ∃ A, fv u.1 = some A := by
  have h0 := i.2.1
  have h1 := i.2.2.2 (by decide)
  have hp := p.2
  unfold pq at hp
  have e : IntKind.i64.wrap (i.1 - 1000000) = i.1 - 1000000 := by rw [IntKind.wrap_i64]; omega
  obtain ⟨A, h2, _⟩ := fb_mul (i.1 - 1000000) p.1 (by omega) (by omega)
  rw [← e] at h2
  exact ⟨A, fv_w u h2⟩
theorem fw_is {e : Nat} (u : FW e) (h : nanB e = false) : u.1 = e := by
  have h1 := u.2.1
  have h2 := u.2.2
  cases h3 : nanB u.1 with
  | true => rw [nf_nan h3] at h1; rw [← h1, nan_NAN] at h; cases h
  | false => rw [nf_num h3] at h1; omega
abbrev HugeW : Type := {r : Nat // r = 9218868437227405312}
theorem l01HugeF_spec : Spec Tryz.prog 214 [] [] [] (PM (fun h : HugeW => .float .f64 h.1) fun _ => []) := by
  refine enter Tryz.func214 Tryz.ntmps214 rfl (by kernel_rfl) zCon rfl fun G => ?_
  all_goals ((try refine zR3 ?_) <;> (repeat' (with_reducible first | refine And.intro ?_ ?_ | intro _)))
  rename_i u
  have e := fw_is u (by decide +kernel)
  have e2 : u.1 = 9218868437227405312 := by rw [e]; decide +kernel
  exact e_pm ⟨u.1, e2⟩ rfl zRes .nil rfl
theorem fin_low (h : HugeW) (u : FW (fop .quo 13830554455654793216 h.1)) : ∃ A, fv u.1 = some A := by
  obtain ⟨h, rfl⟩ := h
  exact ⟨0, fv_w u (by decide +kernel)⟩
end Go.Proofs.YtbllgmcpebifhaaGreatDoor.K
end

section
/- The draws: finite floats of every kind. -/
namespace Go.Proofs.YtbllgmcpebifhaaGreatDoor.K
open Go Go.RowKit
set_option linter.all false
set_option maxRecDepth 4000
set_option maxHeartbeats 1000000
set_option exponentiation.threshold 5000

theorem FinW.lt (u : FinW) : u.1 < 18446744073709551616 := u.2.1
theorem FinW.fin (u : FinW) : ∃ A, fv u.1 = some A := u.2.2
theorem fin_zero : ∃ A, fv 0 = some A := ⟨0, by decide +kernel⟩
theorem l01FloatF_spec (b : Nat) (vc : Value) (code : List Int) (hb : Bytes code) (hl : code.length ≤ 100000) (s : Seed code.length) : Spec Tryz.prog 213 [pt b] [oSrc b vc s] [fCode vc code] (PSN b vc code.length) := by
  refine enter Tryz.func213 Tryz.ntmps213 rfl (by kernel_rfl) zCon rfl fun G => ?_
  have hN := l01Next_spec b vc code hb hl
  have hB := l01BitsF_spec b vc code hb hl
  all_goals (((try refine zR3 ?_) <;> (repeat' (with_reducible first | refine And.intro ?_ ?_ | intro _))) <;> (repeat' ((first | ((with_reducible apply l_callM); exact rfl; exact rfl; exact zEvs; exact rfl; (apply hN); (case hL => exact zTake); (case hF => exact zFsub); (try any_goals (refine propId ?_; first | omega | exact zLt)); (with_reducible intro _)) | ((with_reducible apply l_callM); exact rfl; exact rfl; exact zEvs; exact rfl; (apply hB); (case hL => exact zTake); (case hF => exact zFsub); (try any_goals (refine propId ?_; first | omega | exact zLt)); (with_reducible intro _)) | ((with_reducible apply l_callM); exact rfl; exact rfl; exact zEvs; exact rfl; (apply l01HugeF_spec); (case hL => exact zTake); (case hF => exact zFsub); (try any_goals (refine propId ?_; first | omega | exact zLt)); (with_reducible intro _)) | (refine l_pickI pq b vc code hb hl rfl rfl zEvs rfl rfl rfl (by repeat (first | exact PL.nil | refine PL.cons (by exact (show _ ∧ _ from by decide)) ?_)) rfl rfl (fun _ => rfl) (fun _ => rfl) (fun _ => zEvs) rfl zTake zMem fun _ _ => ?_)) <;> ((try refine zR3 ?_) <;> (repeat' (with_reducible first | refine And.intro ?_ ?_ | intro _))))))
  all_goals (first | (exfalso; omega) | skip)
  iterate 3 (exact e_pm (⟨floatOfInt .f64 (IntKind.i64.wrap (_ - 10)), floatOfInt_lt _, fin_int _⟩, _) rfl zRes (.cons .head .nil) rfl)
  iterate 2 (exact e_pm (⟨_, FW.lt _, fin_quo _ _ _⟩, _) rfl zRes (.cons .head .nil) rfl)
  · exact e_pm (⟨_, FW.lt _, fin_mul _ _ _⟩, _) rfl zRes (.cons .head .nil) rfl
  · exact e_pm (⟨_, FW.lt _, fin_low _ _⟩, _) rfl zRes (.cons .head .nil) rfl
  · exact e_pm (⟨0, by decide, fin_zero⟩, _) rfl zRes (.cons .head .nil) rfl
  · exact e_pm (_, _) rfl zRes (.cons .head .nil) rfl
end Go.Proofs.YtbllgmcpebifhaaGreatDoor.K
end
