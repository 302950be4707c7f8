/- The program's rounding: exact where it can be. -/
import Derived.Test.YtbllgmcpebifhaaGreatDoorZNe
import Derived.Test.YtbllgmcpebifhaaGreatDoorZLa
namespace Go.Proofs.YtbllgmcpebifhaaGreatDoor.K
open Go Go.RowKit
set_option linter.all false
set_option maxRecDepth 4000
set_option maxHeartbeats 1000000
set_option exponentiation.threshold 40000

theorem ofInt_small (M : Nat) (h : M ≤ 2 ^ 53) : fv (floatOfInt .f64 (M : Int)) = some ((M : Int) * (2 ^ 1074 : Nat)) := by
  have h1 := Ieee.Format.write
  show fv (Ieee.double.write (.number (decide ((M : Int) < 0)) (M : Int).natAbs 0)) = _
  rw [Int.natAbs_natCast, decide_eq_false (by omega), write_num false M 0 (M * 2 ^ 1074) 1074 0 (by rw [Nat.pow_zero, Nat.mul_one]) (by omega) (frep_small h)]
  simp
theorem ofInt_lt (z : Int) : floatOfInt .f64 z < 18446744073709551616 := Ieee.Format.write_lt Ieee.double (.number (z < 0) z.natAbs 0)

/-- A rounded float is handed back; R stays. -/
def PRdd (v p : Int) (R : List Own) (r : Value) (L' : List Own) (F' : List Fact) : Prop := ∃ y b, r = .tuple #[.float .f64 y, .bool b] ∧ y < 18446744073709551616 ∧
  ((b = true ∧ ∃ A, fv y = some A ∧ (∀ a, VEq a v p → FRep a.natAbs → A = a) ∧ (v = 0 → y = 0)) ∨ (b = false ∧ ∀ a, VEq a v p → ¬ FRep a.natAbs)) ∧ L' = R ∧ F' = []
theorem rounded0_spec (x : Nat) (mx : Value) (R : List Own) (hx : oInt x 0 mx ∈ R) :
    Spec Tryz.prog 177 [vNum x 0, .int .i64 53, .int .i64 (-1074), .int .i64 1024] R [fDig mx (0 : Int).natAbs, fTz] (PRdd 0 0 R) := by
  refine enter Tryz.func177 Tryz.ntmps177 rfl (by kernel_rfl) zCon rfl fun G => ?_
  all_goals ((try refine zR2 ?_) <;> (repeat' (with_reducible first | refine And.intro ?_ ?_ | intro _)))
  refine l_callVA rfl zEvs rfl (Sign_spec x 0 mx _ (.tail _ hx)) zFsub ?_
  rw [show sgn 0 = 0 from rfl]
  all_goals ((try refine zR2 ?_) <;> (repeat' (with_reducible first | refine And.intro ?_ ?_ | intro _)))
  all_goals (first | (exfalso; omega) | skip)
  exact e_resT rfl zRes (Lo := R) zTake fsub_nil ⟨0, true, rfl, by omega, .inl ⟨rfl, 0, fv_zero, fun a h _ => h.zero.symm, fun _ => rfl⟩, rfl, rfl⟩

theorem shl_low {s : Nat} (p q : Int) (hs : ((blen s : Nat) : Int) + p - 53 ≤ q) : shl (s : Int) (p + (0 - q)) = ((shl (s : Int) (p + (0 - q))).toNat : Int) ∧ (shl (s : Int) (p + (0 - q))).toNat < 2 ^ 53 ∧ (q ≤ p → (shl (s : Int) (p + (0 - q))).toNat = s * 2 ^ (p - q).toNat) := by
  have hb : s < 2 ^ blen s := blen_le.1 (Nat.le_refl _)
  unfold shl
  by_cases h : 0 ≤ p + (0 - q)
  · rw [if_pos h]
    have e : (s : Int) * 2 ^ (p + (0 - q)).toNat = ((s * 2 ^ (p + (0 - q)).toNat : Nat) : Int) := by simp
    rw [e, Int.toNat_natCast]
    refine ⟨rfl, pw_lt hb _ (by omega), fun _ => ?_⟩
    congr 2; omega
  · rw [if_neg h]
    have e : (s : Int) / 2 ^ (-(p + (0 - q))).toNat = ((s / 2 ^ (-(p + (0 - q))).toNat : Nat) : Int) := by simp
    rw [e, Int.toNat_natCast]
    exact ⟨rfl, round_low hb _ (by omega), fun h' => by omega⟩
theorem rnd_big {v p q : Int} {M : Nat} (hv : v % 2 = 1) (hR : Rnd v p q M) (hq : q ≤ 10000) (hb : 1024 < (blen M : Int) + q) : ∀ a, VEq a v p → ¬ FRep a.natAbs := by
  intro a h1 h2
  obtain ⟨h3, h4⟩ := hR.2 a h1 h2
  obtain ⟨_, h5, h6, h7⟩ := h1.bounds h2 hv
  have h8 : M < 2 ^ (1024 - q).toNat := by rw [h4]; exact pw_lt h7 _ (by omega)
  have := blen_le.2 h8
  omega

theorem rb_a {M : Nat} (h : M < 2 ^ 53) : M < 4294967296 ^ 990 := Nat.lt_trans h (by decide +kernel)
theorem rb_p {a k n : Nat} (h : k ≤ n) (ha : 2 ^ n ≤ a) : 2 ^ k ≤ a := Nat.le_trans (Nat.pow_le_pow_right (by omega) h) ha
theorem rb_b {s k : Nat} (h : s < 2 ^ 4800) (hk : k ≤ 6100) : ((s : Int) * 2 ^ k).natAbs < 4294967296 ^ 900 := by
  have e : ((s : Int) * 2 ^ k) = ((s * 2 ^ k : Nat) : Int) := by simp
  rw [e, Int.natAbs_natCast]
  exact Nat.lt_of_lt_of_le (pw_lt (a := 4800) (b := 4800 + k) h k (by omega)) (rb_p (n := 10900) (by omega) (by decide +kernel))
theorem rb_c {s k : Nat} (h : s < 2 ^ 53) (hk : k ≤ 16000) : ((s : Int) * 2 ^ k).natAbs < 4294967296 ^ 900 := by
  have e : ((s : Int) * 2 ^ k) = ((s * 2 ^ k : Nat) : Int) := by simp
  rw [e, Int.natAbs_natCast]
  exact Nat.lt_of_lt_of_le (pw_lt (a := 53) (b := 53 + k) h k (by omega)) (rb_p (n := 16053) (by omega) (by decide +kernel))
theorem rb_d {a b : Int} (h1 : a.natAbs < 4294967296 ^ 900) (h2 : b.natAbs < 4294967296 ^ 900) : (a - b).natAbs < 4294967296 ^ 990 := by
  have h3 : (a - b).natAbs ≤ a.natAbs + b.natAbs := by omega
  have h4 : 4294967296 ^ 900 + 4294967296 ^ 900 < 4294967296 ^ 990 := by decide +kernel
  generalize 4294967296 ^ 900 = T at *
  generalize 4294967296 ^ 990 = U at *
  omega
theorem rb_f {M : Nat} (h : M ≤ 2 ^ 53) : -9223372036854775808 ≤ (M : Int) ∧ (M : Int) ≤ 9223372036854775807 := by omega
theorem rb_g {M : Nat} {q : Int} (h : M ≤ 2 ^ 53) (hq : -1074 ≤ q) (hb : ¬ 1024 < (blen M : Int) + q) : FRep ((M : Int) * (2 ^ (q + 1074).toNat : Nat)).natAbs := by
  rw [natAbs_pw, Int.natAbs_natCast]
  exact frep_of M _ h (pw_lt (blen_le.1 (Nat.le_refl _)) _ (by omega))
theorem rb_e {s M : Nat} {p q : Int} (h : q ≤ p) (hM : M = s * 2 ^ (p - q).toNat) : (s : Int) * 2 ^ (p - min p q).toNat - (M : Int) * 2 ^ (q - min p q).toNat = 0 := by
  rw [show min p q = q by omega, hM, show (q - q).toNat = 0 by omega]
  simp

theorem rounded_spec (x : Nat) (v p : Int) (mx : Value) (R : List Own) (hx : oInt x v mx ∈ R) (hv : v % 2 = 1) (hl : v.natAbs < 2 ^ 4800) (hp : -5000 ≤ p ∧ p ≤ 5000) :
    Spec Tryz.prog 177 [vNum x p, .int .i64 53, .int .i64 (-1074), .int .i64 1024] R [fDig mx v.natAbs, fTz] (PRdd v p R) := by
  refine enter Tryz.func177 Tryz.ntmps177 rfl (by kernel_rfl) zCon rfl fun G => ?_
  have hB : ∀ k : Nat, 150 ≤ k → v.natAbs < 4294967296 ^ k := fun k hk => Nat.lt_of_lt_of_le (by rw [two4800] at hl; exact hl) (Nat.pow_le_pow_right (by omega) hk)
  have hv0 : v ≠ 0 := by omega
  have hg0 : ¬ sgn v = 0 := fun h => hv0 (sgn_zero.1 h)
  have hbl : blen v.natAbs ≤ 4800 := blen_le.2 hl
  all_goals ((try refine zR2 ?_) <;> (repeat' (with_reducible first | refine And.intro ?_ ?_ | intro _)))
  refine l_callVA rfl zEvs rfl (Sign_spec x v mx _ (.tail _ hx)) zFsub ?_
  all_goals ((try refine zR2 ?_) <;> (repeat' (with_reducible first | refine And.intro ?_ ?_ | intro _)))
  all_goals first | (exfalso; contradiction) | skip
  rename_i b4 _
  obtain ⟨s, hs⟩ : ∃ s, s = v.natAbs := ⟨_, rfl⟩
  obtain ⟨q, hq⟩ : ∃ q, q = max ((blen s : Int) + p - 53) (-1074) := ⟨_, rfl⟩
  refine c_mid (κ := Unit) (fun _ => [(10, .int .i64 q), (4, ptr b4), (3, .int .i64 1024)]) (fun _ => .box b4 [ptr x, .int .i64 p] 111 :: R) (fun _ => [fDig mx v.natAbs, fTz]) ?_ ?_
  · refine c_draw ([10], []) [.box b4 [ptr x, .int .i64 p] 111] [0, 1, 3, 4, 6, 8, 2, 5, 7, 9, 10] (by kernel_rfl) (by kernel_rfl) ?_
    all_goals ((try refine zD2 ?_) <;> (repeat' (with_reducible first | refine And.intro ?_ ?_ | intro _)))
    refine l_callVA rfl zEvs rfl (BitLen_spec x v mx _ (.tail _ hx) (hB 2000 (by omega))) zFsub ?_
    rw [← hs] at hbl ⊢
    all_goals ((try refine zD2 ?_) <;> (repeat' (with_reducible first | refine And.intro ?_ ?_ | intro _)))
    exact e_out () zSub rfl zFsub
  intro _
  have hqb : -1074 ≤ q ∧ q ≤ 10000 ∧ (blen s : Int) + p - 53 ≤ q := by rw [← hs] at hbl; omega
  have hqx : ∀ a, VEq a v p → FRep a.natAbs → q ≤ p := fun a h1 h2 => by have := exact_q hv h1 h2; rw [← hs] at this; omega
  clear hq
  obtain ⟨hlo1, hlo2, hlo3⟩ := shl_low p q hqb.2.2
  all_goals ((try refine zR2 ?_) <;> (repeat' (with_reducible first | refine And.intro ?_ ?_ | intro _)))
  refine c_mid (κ := Nat × Value × Nat) (fun k => [(10, .int .i64 q), (4, ptr b4), (3, .int .i64 1024), (11, ptr k.2.2)]) (fun k => .box k.2.2 [ptr k.1, .int .i64 p] 111 :: oInt k.1 (s : Int) k.2.1 :: .box b4 [ptr x, .int .i64 p] 111 :: R) (fun k => [fDig k.2.1 ((s : Int)).natAbs, fDig mx v.natAbs, fTz]) ?_ ?_
  · refine c_draw ([8], []) [.box b4 [ptr x, .int .i64 p] 111] [1, 2, 4, 5, 0, 3, 6, 7, 8] (by kernel_rfl) (by kernel_rfl) ?_
    all_goals ((try refine zD2 ?_) <;> (repeat' (with_reducible first | refine And.intro ?_ ?_ | intro _)))
    refine a_two (k := 7) [3, 6, 7, 8] [0, 3, 6, 8] rfl rfl (.inl (by decide +kernel)) rfl rfl ?_ ?_
    · all_goals ((try refine zD2 ?_) <;> (repeat' (with_reducible first | refine And.intro ?_ ?_ | intro _)))
      rename_i a
      refine a_two (k := 7) [6, 7, 8] [3, 6, 8] rfl rfl (.inl (by decide +kernel)) rfl rfl ?_ ?_
      · refine l_callIA rfl zEvs rfl (Abs_spec a x v false _ mx _ (.tail _ (.tail _ hx)) (hB 2000 (by omega))) zFsub fun ma => ?_
        rw [← hs]
        all_goals ((try refine zD2 ?_) <;> (repeat' (with_reducible first | refine And.intro ?_ ?_ | intro _)))
        rename_i b11
        refine ends_take (L' := .box b11 [ptr a, .int .i64 p] 111 :: oInt a (s : Int) ma :: .box b4 [ptr x, .int .i64 p] 111 :: R) zTake ?_
        exact e_out (a, ma, b11) zSub rfl zFsub
      · all_goals ((try refine zD2 ?_) <;> (repeat' (with_reducible first | refine And.intro ?_ ?_ | intro _)))
        rename_i b11
        refine l_callI rfl zEvs rfl (Abs_spec a x v false _ mx (.box b11 [.pointer none, .int .i64 0] 111 :: .box b4 [ptr x, .int .i64 p] 111 :: R) (.tail _ (.tail _ (.tail _ hx))) (hB 2000 (by omega))) zTake zFsub fun ma => ?_
        rw [List.append_nil, ← hs]
        all_goals ((try refine zD2 ?_) <;> (repeat' (with_reducible first | refine And.intro ?_ ?_ | intro _)))
        refine ends_take (L' := .box b11 [ptr a, .int .i64 p] 111 :: oInt a (s : Int) ma :: .box b4 [ptr x, .int .i64 p] 111 :: R) zTake ?_
        exact e_out (a, ma, b11) zSub rfl zFsub
    · all_goals ((try refine zD2 ?_) <;> (repeat' (with_reducible first | refine And.intro ?_ ?_ | intro _)))
      rename_i b11 a
      refine l_callIA rfl zEvs rfl (Abs_spec a x v false _ mx _ (.tail _ (.tail _ (.tail _ hx))) (hB 2000 (by omega))) zFsub fun ma => ?_
      rw [← hs]
      all_goals ((try refine zD2 ?_) <;> (repeat' (with_reducible first | refine And.intro ?_ ?_ | intro _)))
      refine ends_take (L' := .box b11 [ptr a, .int .i64 p] 111 :: oInt a (s : Int) ma :: .box b4 [ptr x, .int .i64 p] 111 :: R) zTake ?_
      exact e_out (a, ma, b11) zSub rfl zFsub
  · rintro ⟨a, ma, b11⟩
    clear hg0
    rw [← hs] at hl
    have hB : ∀ k : Nat, 150 ≤ k → ((s : Int)).natAbs < 4294967296 ^ k := fun k hk => by rw [Int.natAbs_natCast, hs]; exact hB k hk
    all_goals ((try refine zR2 ?_) <;> (repeat' (with_reducible first | refine And.intro ?_ ?_ | intro _)))
    refine l_callA rfl zEvs rfl (floor_spec a (s : Int) p (0 - q) ma _ zMem (hB 990 (by omega)) (by omega) (by omega)) zFsub ?_
    rintro _ L' F' ⟨lo, ml, rfl, rfl, rfl⟩
    generalize (shl (s : Int) (p + (0 - q))).toNat = M0 at hlo1 hlo2 hlo3
    rw [hlo1]
    clear hlo1
    have hM0 : ((M0 : Int)).natAbs < 4294967296 ^ 990 := by rw [Int.natAbs_natCast]; exact rb_a hlo2
    have hM900 : ((M0 : Int)).natAbs < 4294967296 ^ 900 := by rw [Int.natAbs_natCast]; exact Nat.lt_trans hlo2 (by decide +kernel)
    have hm1 := rb_b hl (show (p - min p q).toNat ≤ 6100 by omega)
    have hm2 := rb_c hlo2 (show (q - min p q).toNat ≤ 16000 by omega)
    all_goals ((try refine zR2 ?_) <;> (repeat' (with_reducible first | refine And.intro ?_ ?_ | intro _)))
    refine l_callA rfl zEvs rfl (minus_spec a lo (s : Int) (M0 : Int) p q ma ml _ zMem zMem (hB 990 (by omega)) hM0 (by omega) (by omega) hm1 hm2) zFsub ?_
    rintro _ L' F' ⟨a3, m3, rfl, rfl, rfl⟩
    have hv3 := rb_d hm1 hm2
    have hv30 : ∀ a, VEq a v p → FRep a.natAbs → (s : Int) * 2 ^ (p - min p q).toNat - (M0 : Int) * 2 ^ (q - min p q).toNat = 0 := fun a h1 h2 => rb_e (hqx a h1 h2) (hlo3 (hqx a h1 h2))
    generalize (s : Int) * 2 ^ (p - min p q).toNat - (M0 : Int) * 2 ^ (q - min p q).toNat = v3 at hv3 hv30 ⊢
    all_goals ((try refine zR2 ?_) <;> (repeat' (with_reducible first | refine And.intro ?_ ?_ | intro _)))
    rename_i b13
    have hc0 : ∀ D : Nat, (∀ a, VEq a v p → FRep a.natAbs → v3 * 2 ^ D < 1 * 2 ^ ((q - 1) - min (min p q) (q - 1)).toNat) := fun D a h1 h2 => by rw [hv30 a h1 h2, Int.zero_mul, Int.one_mul]; exact Int.pow_pos (by omega)
    refine c_mid (κ := { c : Int // ∀ a, VEq a v p → FRep a.natAbs → c < 0 }) (fun k => [(10, .int .i64 q), (4, ptr b4), (3, .int .i64 1024), (12, ptr lo), (14, .int .i64 k.1)]) (fun _ => oInt lo (M0 : Int) ml :: .box b4 [ptr x, .int .i64 p] 111 :: R) (fun _ => [fDig ml ((M0 : Int)).natAbs, fDig mx v.natAbs, fTz]) ?_ ?_
    · refine c_draw ([6], []) [.box b13 [ptr a3, .int .i64 (min p q)] 111] [0, 2, 3, 1, 4, 5, 6] (by kernel_rfl) (by kernel_rfl) ?_
      all_goals ((try refine zD2 ?_) <;> (repeat' (with_reducible first | refine And.intro ?_ ?_ | intro _)))
      refine l_call rfl zEvs rfl (newBig_spec 1 (by omega)) zTake zFsub ?_
      rintro _ L' F' ⟨b1, m1, rfl, rfl, rfl⟩
      all_goals ((try refine zD2 ?_) <;> (repeat' (with_reducible first | refine And.intro ?_ ?_ | intro _)))
      refine l_callVA rfl zEvs rfl (compare_spec a3 b1 v3 1 (min p q) (q - 1) m3 m1 _ zMem zMem hv3 (by decide +kernel) (by omega) (by omega)) zFsub ?_
      have hc1 := hc0 (min p q - min (min p q) (q - 1)).toNat
      generalize v3 * 2 ^ (min p q - min (min p q) (q - 1)).toNat = A1 at hc1 ⊢
      obtain ⟨A2, hA2⟩ : ∃ A2, A2 = (1 : Int) * 2 ^ ((q - 1) - min (min p q) (q - 1)).toNat := ⟨_, rfl⟩
      rw [← hA2] at hc1 ⊢
      obtain ⟨c, hc⟩ : ∃ c, c = if A1 < A2 then (-1 : Int) else if A1 = A2 then 0 else 1 := ⟨_, rfl⟩
      rw [← hc]
      all_goals ((try refine zD2 ?_) <;> (repeat' (with_reducible first | refine And.intro ?_ ?_ | intro _)))
      refine ends_take (L' := oInt lo (M0 : Int) ml :: .box b4 [ptr x, .int .i64 p] 111 :: R) zTake ?_
      exact e_out ⟨c, fun a h1 h2 => by rw [hc, if_pos (hc1 a h1 h2)]; omega⟩ zSub rfl zFsub
    · rintro ⟨c, hc⟩
      refine c_mid (κ := { k : Nat × Value // Rnd v p q k.1 }) (fun k => [(10, .int .i64 q), (4, ptr b4), (3, .int .i64 1024), (12, ptr lo)]) (fun k => oInt lo (k.1.1 : Int) k.1.2 :: .box b4 [ptr x, .int .i64 p] 111 :: R) (fun k => [fDig k.1.2 ((k.1.1 : Int)).natAbs, fDig mx v.natAbs, fTz]) ?_ ?_
      · have hR0 : Rnd v p q M0 := ⟨Nat.le_of_lt hlo2, fun a h1 h2 => ⟨hqx a h1 h2, by rw [← hs]; exact hlo3 (hqx a h1 h2)⟩⟩
        have hR1 : 0 ≤ c → Rnd v p q (M0 + 1) := fun hc' => ⟨hlo2, fun a h1 h2 => by have := hc a h1 h2; omega⟩
        dsimp only at hc ⊢
        all_goals ((try refine zR2 ?_) <;> (repeat' (with_reducible first | refine And.intro ?_ ?_ | intro _)))
        all_goals first | (exfalso; omega) | skip
        · skip
          refine l_call rfl zEvs rfl (newBig_spec 1 (by omega)) zTake zFsub ?_
          rintro _ L' F' ⟨b1, m1, rfl, rfl, rfl⟩
          all_goals ((try refine zR2 ?_) <;> (repeat' (with_reducible first | refine And.intro ?_ ?_ | intro _)))
          refine l_call rfl zEvs rfl (Add_spec lo lo b1 (M0 : Int) 1 (decide ((M0 : Int) < 0)) ml ml m1 [oInt b1 1 m1] (.head _) (.tail _ (.head _)) hM900 (by decide +kernel)) zTake zFsub ?_
          rintro _ L' F' ⟨ml2, rfl, rfl, rfl⟩
          all_goals ((try refine zR2 ?_) <;> (repeat' (with_reducible first | refine And.intro ?_ ?_ | intro _)))
          refine ends_take (L' := oInt lo ((M0 + 1 : Nat) : Int) ml2 :: .box b4 [ptr x, .int .i64 p] 111 :: R) zTake ?_
          exact e_out ⟨(M0 + 1, ml2), hR1 (by omega)⟩ zSub rfl zFsub
        · refine l_callA rfl zEvs rfl (Bit0_spec lo (M0 : Int) ml _ zMem) zFsub ?_
          rintro _ L' F' ⟨n0, rfl, rfl, rfl⟩
          all_goals ((try refine zR2 ?_) <;> (repeat' (with_reducible first | refine And.intro ?_ ?_ | intro _)))
          · skip
            refine l_call rfl zEvs rfl (newBig_spec 1 (by omega)) zTake zFsub ?_
            rintro _ L' F' ⟨b1, m1, rfl, rfl, rfl⟩
            all_goals ((try refine zR2 ?_) <;> (repeat' (with_reducible first | refine And.intro ?_ ?_ | intro _)))
            refine l_call rfl zEvs rfl (Add_spec lo lo b1 (M0 : Int) 1 (decide ((M0 : Int) < 0)) ml ml m1 [oInt b1 1 m1] (.head _) (.tail _ (.head _)) hM900 (by decide +kernel)) zTake zFsub ?_
            rintro _ L' F' ⟨ml2, rfl, rfl, rfl⟩
            all_goals ((try refine zR2 ?_) <;> (repeat' (with_reducible first | refine And.intro ?_ ?_ | intro _)))
            refine ends_take (L' := oInt lo ((M0 + 1 : Nat) : Int) ml2 :: .box b4 [ptr x, .int .i64 p] 111 :: R) zTake ?_
            exact e_out ⟨(M0 + 1, ml2), hR1 (by omega)⟩ zSub rfl zFsub
          · exact e_out ⟨(M0, ml), hR0⟩ zSub rfl zFsub
        · exact e_out ⟨(M0, ml), hR0⟩ zSub rfl zFsub
      · rintro ⟨⟨M, mM⟩, hM⟩
        dsimp only at hM ⊢
        have hM53 := hM.1
        have hMb : ((M : Int)).natAbs < 4294967296 ^ 2000 := by rw [Int.natAbs_natCast]; exact Nat.lt_of_le_of_lt hM53 (by decide +kernel)
        all_goals ((try refine zR2 ?_) <;> (repeat' (with_reducible first | refine And.intro ?_ ?_ | intro _)))
        refine l_callVA rfl zEvs rfl (BitLen_spec lo (M : Int) mM _ zMem hMb) zFsub ?_
        rw [Int.natAbs_natCast]
        have hbM : blen M ≤ 54 := blen_le.2 (Nat.lt_of_le_of_lt hM53 (by decide))
        all_goals ((try refine zR2 ?_) <;> (repeat' (with_reducible first | refine And.intro ?_ ?_ | intro _)))
        · exact e_resT rfl zRes (Lo := R) zTake fsub_nil ⟨0, false, rfl, by omega, .inr ⟨rfl, rnd_big hv hM hqb.2.1 (by assumption)⟩, rfl, rfl⟩
        · have hMi : -9223372036854775808 ≤ (M : Int) ∧ (M : Int) ≤ 9223372036854775807 := rb_f hM53
          refine l_callVA rfl zEvs rfl (Int64_spec lo (M : Int) mM _ zMem hMi) zFsub ?_
          have hfl := rb_g hM53 hqb.1 (by omega : ¬ 1024 < (blen M : Int) + q)
          have hy1 := ofInt_small M hM53
          have hy2 := ofInt_lt (M : Int)
          obtain ⟨y0, hy0⟩ : ∃ y0, y0 = floatOfInt .f64 (M : Int) := ⟨_, rfl⟩
          rw [← hy0] at hy1 hy2
          have hv' := fun a h => rnd_value (v := v) (e := p) (q := q) (a := a) (M := M) h hqb.1
          obtain ⟨j, hj⟩ : ∃ j : Nat, j = 1074 := ⟨_, rfl⟩
          rw [← hj] at hy1
          have hLd := Ldexp_spec y0 ((M : Int) * (2 ^ j : Nat)) ((M : Int) * (2 ^ (q + 1074).toNat : Nat)) q (q + 1074).toNat j hy2 hy1 (by rw [Int.mul_assoc, Int.mul_assoc, Int.mul_comm ((2 ^ j : Nat) : Int)]) (by omega) hfl (by omega)
          generalize (M : Int) * (2 ^ (q + 1074).toNat : Nat) = A at hLd hv' hfl
          all_goals ((try refine zR2 ?_) <;> (repeat' (with_reducible first | refine And.intro ?_ ?_ | intro _)))
          rw [← hy0]
          refine l_call rfl zEvs rfl hLd zTake zFsub ?_
          rintro _ L' F' ⟨y, rfl, hy64, hyA, rfl, rfl⟩
          all_goals ((try refine zR2 ?_) <;> (repeat' (with_reducible first | refine And.intro ?_ ?_ | intro _)))
          refine l_callVA rfl zEvs rfl (Sign_spec x v mx _ (.tail _ (.tail _ hx))) zFsub ?_
          by_cases hneg : v < 0
          · have hsg : sgn v = -1 := by unfold sgn; rw [if_neg hv0, if_pos hneg]
            rw [hsg]
            all_goals ((try refine zR2 ?_) <;> (repeat' (with_reducible first | refine And.intro ?_ ?_ | intro _)))
            refine e_resT rfl zRes (Lo := R) zTake fsub_nil ⟨_, true, rfl, neg_lt hy64, .inl ⟨rfl, -A, fv_neg hy64 hyA, fun a h1 h2 => ?_, fun h => (hv0 h).elim⟩, rfl, rfl⟩
            obtain ⟨h3, h4⟩ := hM.2 a h1 h2
            have := hv' a h1 h3 h4
            rwa [if_pos hneg] at this
          · have hsg : sgn v = 1 := by unfold sgn; rw [if_neg hv0, if_neg hneg]
            rw [hsg]
            all_goals ((try refine zR2 ?_) <;> (repeat' (with_reducible first | refine And.intro ?_ ?_ | intro _)))
            refine e_resT rfl zRes (Lo := R) zTake fsub_nil ⟨_, true, rfl, hy64, .inl ⟨rfl, A, hyA, fun a h1 h2 => ?_, fun h => (hv0 h).elim⟩, rfl, rfl⟩
            obtain ⟨h3, h4⟩ := hM.2 a h1 h2
            have := hv' a h1 h3 h4
            rwa [if_neg hneg] at this
end Go.Proofs.YtbllgmcpebifhaaGreatDoor.K
