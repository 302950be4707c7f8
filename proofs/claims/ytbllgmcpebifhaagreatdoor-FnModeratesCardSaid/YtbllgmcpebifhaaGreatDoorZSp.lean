/- The program's moderate numbers. -/
import Derived.Test.YtbllgmcpebifhaaGreatDoorZSm
import Derived.Test.YtbllgmcpebifhaaGreatDoorZNe
namespace Go.Proofs.YtbllgmcpebifhaaGreatDoor.K
open Go Go.RowKit Go.Lib Ieee
set_option exponentiation.threshold 6000
set_option linter.all false
set_option maxRecDepth 10000
set_option maxHeartbeats 1000000

section
variable {G : Ctx} {n : Nat} {P : Program} {ops : Array Oper} {Q : Post} {rest : List Oper} {m : Regs} {L : List Own} {F : List Fact} {d : Nat} {ty : TypeId} {pos : String} {af : Array Edge} {g : Option (Nat × Bool)}
theorem l_fmaxF {x y : Operand} {ts : Array TypeId} {p q : Nat} {a b : Int} (hw : wantG ops m g = some true) (hx : ev m x = some (.float .f64 p)) (hy : ev m y = some (.float .f64 q)) (hd : Nat.blt d n = true) (ha : fv p = some a) (hb : fv q = some b)
    (h : ∀ r, r = p ∨ r = q → fv r = some (max a b) → RunL G n P ops Q rest ((d, .float .f64 r) :: m) L F) :
    RunL G n P ops Q (⟨some d, .call ⟨.builtin .max, #[x, y], ts⟩, ty, pos, af, g⟩ :: rest) m L F :=
  l_step hw fun a' w s => by
    have e : FloatKind.format .f64 = double := rfl
    have ho := order_exact ha hb
    have hrun : ∀ c, double.order p q = some c → ∀ r, (match c with | .lt => q | .gt => p | .eq => if (double.read p).neg then q else p) = r → (execOp a'.eval ⟨some d, .call ⟨.builtin .max, #[x, y], ts⟩, ty, pos, af, g⟩).run P w = .ok (.value (.float .f64 r)) w := fun c ho r hr => by
      subst hr
      cases c <;> simp [execOp, s.env.eval hx, s.env.eval hy, resolve, invoke, builtin, Builtin.max_, Builtin.max2, e, ho, FloatKind.decode]
    rcases Int.lt_trichotomy a b with h1 | h1 | h1
    · have hc : compare a b = .lt := (cmp_eq a b).2.1.2 h1
      rw [hc] at ho
      exact ⟨_, w, hrun _ ho q rfl, h q (.inr rfl) (by rw [show max a b = b by omega]; exact hb) _ _ (s.put hd _)⟩
    · have hc : compare a b = .eq := (cmp_eq a b).1.2 h1
      rw [hc] at ho
      by_cases hn : (double.read p).neg = true
      · exact ⟨_, w, hrun _ ho q (if_pos hn), h q (.inr rfl) (by rw [show max a b = b by omega]; exact hb) _ _ (s.put hd _)⟩
      · exact ⟨_, w, hrun _ ho p (if_neg hn), h p (.inl rfl) (by rw [show max a b = a by omega]; exact ha) _ _ (s.put hd _)⟩
    · have hc : compare a b = .gt := (cmp_eq a b).2.2.2 h1
      rw [hc] at ho
      exact ⟨_, w, hrun _ ho p rfl, h p (.inl rfl) (by rw [show max a b = a by omega]; exact ha) _ _ (s.put hd _)⟩
end
theorem largerPart_spec (x y : Nat) (a b : Int) (hx64 : x < 18446744073709551616) (hy64 : y < 18446744073709551616) (hx : fv x = some a) (hy : fv y = some b) :
    Spec Tryz.prog 155 [.complex .f64 x y] [] [] (PFl fun r => fv r = some (max (a.natAbs : Int) (b.natAbs : Int))) := by
  refine enter Tryz.func155 Tryz.ntmps155 rfl (by kernel_rfl) zCon rfl fun G => ?_
  have h1 := Abs64_spec x hx64
  have h2 := Abs64_spec y hy64
  have hv1 := fv_abs hx
  have hv2 := fv_abs hy
  all_goals (((try refine zR2 ?_) <;> (repeat' (with_reducible first | refine And.intro ?_ ?_ | intro _))) <;> (repeat' ((first | ((with_reducible apply l_callP); exact rfl; exact zEvs; exact rfl; (with_reducible apply h1); (case hF => exact zFsub); (try any_goals (refine propId ?_; omega))) | ((with_reducible apply l_callP); exact rfl; exact zEvs; exact rfl; (with_reducible apply h2); (case hF => exact zFsub); (try any_goals (refine propId ?_; omega)))) <;> ((try refine zR2 ?_) <;> (repeat' (with_reducible first | refine And.intro ?_ ?_ | intro _))))))
  refine l_fmaxF rfl rfl rfl rfl hv1 hv2 fun r hr hv => ?_
  all_goals ((try refine zR2 ?_) <;> (repeat' (with_reducible first | refine And.intro ?_ ?_ | intro _)))
  exact e_resT rfl zRes .nil fsub_nil ⟨r, rfl, by rcases hr with rfl | rfl <;> omega, hv, rfl, rfl⟩
theorem frep_up {N : Nat} (h : FRep N) (hb : N ≤ 2 ^ 1104) : FRep (N * 2 ^ 60) := by
  obtain ⟨m, k, rfl, hm, hk⟩ := h
  rw [Nat.mul_assoc, ← Nat.pow_add]
  refine frep_of m (k + 60) (Nat.le_of_lt hm) ?_
  rw [Nat.pow_add, ← Nat.mul_assoc]
  refine Nat.lt_of_le_of_lt (Nat.mul_le_mul_right _ hb) ?_
  rw [← Nat.pow_add]
  exact Nat.pow_lt_pow_right (by omega) (by omega)
theorem moderatePart_spec (x : Nat) (a : Int) (h64 : x < 18446744073709551616) (hx : fv x = some a) (hb : a.natAbs ≤ 2 ^ 1104) :
    Spec Tryz.prog 156 [.float .f64 x] [] [] (Gives (.float .f64 (modW x))) := by
  refine enter Tryz.func156 Tryz.ntmps156 rfl (by kernel_rfl) zCon rfl fun G => ?_
  have hmw : modW x = wd (mp a) := by unfold modW; rw [fval_of hx]
  have hL := Ldexp_spec x a (a * (2 ^ 60 : Nat)) 60 60 0 h64 hx (by rw [Nat.pow_zero]; simp) (by decide) (by rw [natAbs_pw]; exact frep_up (fv_rep hx) hb) (by omega)
  all_goals ((try refine zR2 ?_) <;> (repeat' (with_reducible first | refine And.intro ?_ ?_ | intro _)))
  refine l_call rfl zEvs rfl hL zTake zFsub ?_
  rintro _ L' F' ⟨y, rfl, hy64, hy, rfl, rfl⟩
  refine l_rte (fv_nonan hy) rfl rfl rfl ?_
  obtain ⟨R, hr1, hr2, hr64⟩ := Wd.of_rte hb hy
  have hL2 := Ldexp_spec (rteB y) (R * (2 ^ 1074 : Nat)) (mp a) (-60) 0 60 hr64 hr1 (by rw [hr2, Nat.pow_zero, Int.natCast_one, Int.mul_one, ← pw_add]) (by decide) (mp_rep (fv_rep hx) hb) (by omega)
  clear hr1
  refine l_call rfl zEvs rfl hL2 zTake zFsub ?_
  rintro _ L' F' ⟨r, rfl, hr64', hr, rfl, rfl⟩
  clear hL hL2 hr2
  generalize mp a = b at hr hmw
  all_goals ((try refine zR2 ?_) <;> (repeat' (with_reducible first | refine And.intro ?_ ?_ | intro _)))
  · have h0 : b = 0 := by assumption
    rw [h0, wd_zero] at hmw
    rw [hmw]
    (refine e_gives rfl zRes ?_; first | rfl | (simp [retVal, *]; done) | (simp_all [retVal]; done) | (simp only [retVal]))
  · have h0 : ¬ b = 0 := by assumption
    have : r = modW x := by rw [hmw]; exact Wd.eq ⟨hr64', hr, fun h => absurd h h0⟩
    rw [← this]
    (refine e_gives rfl zRes ?_; first | rfl | (simp [retVal, *]; done) | (simp_all [retVal]; done) | (simp only [retVal]))
theorem fv_p30 : fv 4742290407621132288 = some ((2 ^ 1104 : Nat) : Int) := by decide +kernel
theorem fv_n30 : fv 13965662444475908096 = some (-((2 ^ 1104 : Nat) : Int)) := by decide +kernel
noncomputable def mmV (z : Nat × Nat) : Value := if fitC z = true then .tuple #[.complex .f64 (modC z).1 (modC z).2, .int .i64 0] else .tuple #[.complex .f64 0 0, .int .i64 3]
theorem fit_val {x y : Nat} {a b : Int} (ha : fv x = some a) (hb : fv y = some b) : fitC (x, y) = (decide (a.natAbs ≤ 2 ^ 1104) && decide (b.natAbs ≤ 2 ^ 1104)) := by unfold fitC fitB; rw [fval_of ha, fval_of hb]
theorem makeModerate_spec (x y : Nat) (hx : Fin1 x) (hy : Fin1 y) : Spec Tryz.prog 74 [.complex .f64 x y] [] [] (Gives (mmV (x, y))) := by
  obtain ⟨hx64, a, ha⟩ := hx
  obtain ⟨hy64, b, hb⟩ := hy
  refine enter Tryz.func74 Tryz.ntmps74 rfl (by kernel_rfl) zCon rfl fun G => ?_
  have hfit := fit_val ha hb
  have hp := fv_p30
  all_goals ((try refine zR2 ?_) <;> (repeat' (with_reducible first | refine And.intro ?_ ?_ | intro _)))
  refine l_call rfl zEvs rfl (largerPart_spec x y a b hx64 hy64 ha hb) zTake zFsub ?_
  rintro _ L' F' ⟨r, rfl, hr64, hr, rfl, rfl⟩
  by_cases hok : a.natAbs ≤ 2 ^ 1104 ∧ b.natAbs ≤ 2 ^ 1104
  · have h1 := moderatePart_spec x a hx64 ha hok.1
    have h2 := moderatePart_spec y b hy64 hb hok.2
    have hv : mmV (x, y) = .tuple #[.complex .f64 (modW x) (modW y), .int .i64 0] := by
      unfold mmV
      rw [if_pos (by rw [hfit, decide_eq_true hok.1, decide_eq_true hok.2]; rfl)]
      rfl
    rw [hv]
    clear hv
    generalize 2 ^ 1104 = M at hfit hp hok
    all_goals (((try refine zR2 ?_) <;> (repeat' (with_reducible first | refine And.intro ?_ ?_ | intro _))) <;> (repeat' ((first | ((with_reducible apply l_callP); exact rfl; exact zEvs; exact rfl; (with_reducible apply h1); (case hF => exact zFsub); (try any_goals (refine propId ?_; omega))) | ((with_reducible apply l_callP); exact rfl; exact zEvs; exact rfl; (with_reducible apply h2); (case hF => exact zFsub); (try any_goals (refine propId ?_; omega)))) <;> ((try refine zR2 ?_) <;> (repeat' (with_reducible first | refine And.intro ?_ ?_ | intro _))))))
    · exfalso; omega
    · (refine e_gives rfl zRes ?_; first | rfl | (simp [retVal, *]; done) | (simp_all [retVal]; done) | (simp only [retVal]))
  · have hv : mmV (x, y) = .tuple #[.complex .f64 0 0, .int .i64 3] := by
      unfold mmV
      rw [if_neg (by
        rw [hfit]
        intro h
        rw [Bool.and_eq_true, decide_eq_true_eq, decide_eq_true_eq] at h
        exact hok h)]
    rw [hv]
    clear hv
    generalize 2 ^ 1104 = M at hfit hp hok
    all_goals ((try refine zR2 ?_) <;> (repeat' (with_reducible first | refine And.intro ?_ ?_ | intro _)))
    · (refine e_gives rfl zRes ?_; first | rfl | (simp [retVal, *]; done) | (simp_all [retVal]; done) | (simp only [retVal]))
    · exfalso; omega
theorem ffin_of {x : Nat} {a : Int} (h : fv x = some a) : ffin x = true := by
  obtain ⟨r, h1, h2⟩ := fin_sub h
  unfold ffin
  have e : fop .sub x x = (double.sub x x).getD NAN := rfl
  rw [e, h1]
  exact (fcmp_val h2 fv_zero).1.trans (decide_eq_true rfl)
theorem fin_of {x : Nat} (h : ffin x = true) : ∃ a, fv x = some a := by
  unfold ffin at h
  have e : fop .sub x x = (((double.read x).sum (double.read x).opposite).map double.write).getD NAN := rfl
  rw [e] at h
  unfold fv
  cases hr : double.read x with
  | number s m p => exact ⟨_, rfl⟩
  | infinity s =>
    rw [hr] at h
    exfalso
    have e2 : Datum.sum (.infinity s) (Datum.opposite (.infinity s)) = none := by cases s <;> rfl
    rw [e2] at h
    revert h
    decide +kernel
  | nan s f =>
    rw [hr] at h
    exfalso
    revert h
    show ¬ fcmp .eql NAN 0 = true
    decide +kernel
theorem fin1_of {x : Nat} (h64 : x < 18446744073709551616) (h : ffin x = true) : Fin1 x := ⟨h64, fin_of h⟩
noncomputable def mmW (z : Nat × Nat) : Value := if cfin z = true then mmV z else .tuple #[.complex .f64 0 0, .int .i64 1]
theorem MakeModerate_spec (x y : Nat) (hx : x < 18446744073709551616) (hy : y < 18446744073709551616) : Spec Tryz.prog 10 [.complex .f64 x y] [] [] (Gives (mmW (x, y))) := by
  have hI := IsFinite_spec x y
  by_cases hc : cfin (x, y) = true
  · have hc' := hc
    unfold cfin at hc'
    rw [Bool.and_eq_true] at hc'
    have hM := makeModerate_spec x y (fin1_of hx hc'.1) (fin1_of hy hc'.2)
    rw [hc] at hI
    have hv : mmW (x, y) = mmV (x, y) := by unfold mmW; rw [if_pos hc]
    rw [hv]
    by_cases hf : fitC (x, y) = true
    · have hm : mmV (x, y) = .tuple #[.complex .f64 (modW x) (modW y), .int .i64 0] := by unfold mmV; rw [if_pos hf]; rfl
      rw [hm] at hM ⊢
      refine enter Tryz.func10 Tryz.ntmps10 rfl (by kernel_rfl) zCon rfl fun G => ?_
      all_goals (((try refine zR2 ?_) <;> (repeat' (with_reducible first | refine And.intro ?_ ?_ | intro _))) <;> (repeat' ((first | ((with_reducible apply l_callM); exact rfl; exact rfl; exact zEvs; exact rfl; (apply hI); (case hL => exact zTake); (case hF => exact zFsub); (try any_goals (refine propId ?_; first | omega | exact zLt)); (with_reducible intro _)) | ((with_reducible apply l_callP); exact rfl; exact zEvs; exact rfl; (with_reducible apply hM); (case hF => exact zFsub); (try any_goals (refine propId ?_; omega)))) <;> ((try refine zR2 ?_) <;> (repeat' (with_reducible first | refine And.intro ?_ ?_ | intro _))))))
      (refine e_gives rfl zRes ?_; first | rfl | (simp [retVal, *]; done) | (simp_all [retVal]; done) | (simp only [retVal]))
    · have hm : mmV (x, y) = .tuple #[.complex .f64 0 0, .int .i64 3] := by unfold mmV; rw [if_neg hf]
      rw [hm] at hM ⊢
      refine enter Tryz.func10 Tryz.ntmps10 rfl (by kernel_rfl) zCon rfl fun G => ?_
      all_goals (((try refine zR2 ?_) <;> (repeat' (with_reducible first | refine And.intro ?_ ?_ | intro _))) <;> (repeat' ((first | ((with_reducible apply l_callM); exact rfl; exact rfl; exact zEvs; exact rfl; (apply hI); (case hL => exact zTake); (case hF => exact zFsub); (try any_goals (refine propId ?_; first | omega | exact zLt)); (with_reducible intro _)) | ((with_reducible apply l_callP); exact rfl; exact zEvs; exact rfl; (with_reducible apply hM); (case hF => exact zFsub); (try any_goals (refine propId ?_; omega)))) <;> ((try refine zR2 ?_) <;> (repeat' (with_reducible first | refine And.intro ?_ ?_ | intro _))))))
      (refine e_gives rfl zRes ?_; first | rfl | (simp [retVal, *]; done) | (simp_all [retVal]; done) | (simp only [retVal]))
  · have hcf : cfin (x, y) = false := by simpa using hc
    rw [hcf] at hI
    have hv : mmW (x, y) = .tuple #[.complex .f64 0 0, .int .i64 1] := by unfold mmW; rw [if_neg hc]
    rw [hv]
    refine enter Tryz.func10 Tryz.ntmps10 rfl (by kernel_rfl) zCon rfl fun G => ?_
    all_goals (((try refine zR2 ?_) <;> (repeat' (with_reducible first | refine And.intro ?_ ?_ | intro _))) <;> (repeat' ((first | ((with_reducible apply l_callM); exact rfl; exact rfl; exact zEvs; exact rfl; (apply hI); (case hL => exact zTake); (case hF => exact zFsub); (try any_goals (refine propId ?_; first | omega | exact zLt)); (with_reducible intro _))) <;> ((try refine zR2 ?_) <;> (repeat' (with_reducible first | refine And.intro ?_ ?_ | intro _))))))
    (refine e_gives rfl zRes ?_; first | rfl | (simp [retVal, *]; done) | (simp_all [retVal]; done) | (simp only [retVal]))
/-- Is a part moderate? -/
def isModB (x : Nat) : Bool := ffin x && (fitB x && decide (fval x % ((2 ^ 1014 : Nat) : Int) = 0))
theorem isMod_iff {x : Nat} {a : Int} (h : fv x = some a) : isModB x = true ↔ a.natAbs ≤ 2 ^ 1104 ∧ ∃ q : Int, a = q * (2 ^ 1014 : Nat) := by
  unfold isModB fitB
  rw [ffin_of h, fval_of h, Bool.true_and, Bool.and_eq_true, decide_eq_true_eq, decide_eq_true_eq]
  constructor
  · rintro ⟨h1, h2⟩
    obtain ⟨q, hq⟩ := Int.dvd_of_emod_eq_zero h2
    exact ⟨h1, q, by rw [hq, Int.mul_comm]⟩
  · rintro ⟨h1, q, hq⟩
    exact ⟨h1, by rw [hq]; exact Int.mul_emod_left _ _⟩
theorem Mod1.is {a : Int} {x : Nat} (h : Mod1 a x) : isModB x = true := (isMod_iff h.1.2.1).2 ⟨h.2.2, h.2.1⟩
theorem dvd_twos {a v p : Int} (h : VEq a v p) (h0 : v ≠ 0) (hp : -3000 ≤ p) : (∃ q : Int, a = q * (2 ^ 1014 : Nat)) ↔ -60 ≤ p + (twos v.natAbs : Int) := by
  have hv := nv_mul v
  have hodd : nv v % 2 = 1 := by
    rcases nv_nrm v p with ⟨h1, _⟩ | h1
    · exact absurd (nv_zero.1 h1) h0
    · exact h1
  have h1 := h.at 4000 (p + 5074).toNat (by omega)
  rw [← hv, Int.mul_assoc, ← Int.natCast_mul, ← Nat.pow_add] at h1
  generalize nv v = w at hodd h1
  generalize twos v.natAbs = t at h1
  constructor
  · rintro ⟨q, rfl⟩
    rcases Int.lt_or_le (p + (t : Int)) (-60) with hlt | hle
    · exfalso
      have e : (2 : Nat) ^ 1014 * 2 ^ 4000 = 2 ^ (5013 - (t + (p + 5074).toNat)) * 2 * 2 ^ (t + (p + 5074).toNat) := by
        rw [← Nat.pow_add, ← Nat.pow_succ, ← Nat.pow_add]
        congr 1
        omega
      rw [Int.mul_assoc, ← Int.natCast_mul, e, Int.natCast_mul, ← Int.mul_assoc] at h1
      have h2 := pw_cancel h1
      rw [Int.natCast_mul, ← Int.mul_assoc] at h2
      generalize q * ((2 ^ (5013 - (t + (p + 5074).toNat)) : Nat) : Int) = z at h2
      omega
    · exact hle
  · intro hle
    obtain ⟨c, hc⟩ : ∃ c, t + (p + 5074).toNat = c + 1014 + 4000 := ⟨t + (p + 5074).toNat - 5014, by omega⟩
    refine ⟨w * (2 ^ c : Nat), pw_cancel (k := 4000) ?_⟩
    rw [h1, hc, pw_add, pw_add]
theorem isModeratePart_spec (x : Nat) (h64 : x < 18446744073709551616) : Spec Tryz.prog 78 [.float .f64 x] [] [fTz] (Gives (.bool (isModB x))) := by
  cases hc : ffin x with
  | false =>
    have hI := isReal_spec x
    rw [hc] at hI
    have hb : isModB x = false := by unfold isModB; rw [hc]; rfl
    rw [hb]
    refine enter Tryz.func78 Tryz.ntmps78 rfl (by kernel_rfl) zCon rfl fun G => ?_
    all_goals (((try refine zR2 ?_) <;> (repeat' (with_reducible first | refine And.intro ?_ ?_ | intro _))) <;> (repeat' ((first | ((with_reducible apply l_callP); exact rfl; exact zEvs; exact rfl; (with_reducible apply hI); (case hF => exact zFsub); (try any_goals (refine propId ?_; omega)))) <;> ((try refine zR2 ?_) <;> (repeat' (with_reducible first | refine And.intro ?_ ?_ | intro _))))))
    (refine e_gives rfl zRes ?_; first | rfl | (simp [retVal, *]; done) | (simp_all [retVal]; done) | (simp only [retVal]))
  | true =>
    obtain ⟨a, hx⟩ := fin_of hc
    have hI := isReal_fin x a hx
    have hp := fv_p30
    have hn := fv_n30
    have hiff := isMod_iff hx
    refine enter Tryz.func78 Tryz.ntmps78 rfl (by kernel_rfl) zCon rfl fun G => ?_
    by_cases hfit : a.natAbs ≤ 2 ^ 1104
    · have hiff2 : isModB x = true ↔ ∃ q : Int, a = q * (2 ^ 1014 : Nat) := ⟨fun h => (hiff.1 h).2, fun h => hiff.2 ⟨hfit, h⟩⟩
      clear hiff
      generalize 2 ^ 1104 = M at hfit hp hn
      all_goals (((try refine zR2 ?_) <;> (repeat' (with_reducible first | refine And.intro ?_ ?_ | intro _))) <;> (repeat' ((first | ((with_reducible apply l_callP); exact rfl; exact zEvs; exact rfl; (with_reducible apply hI); (case hF => exact zFsub); (try any_goals (refine propId ?_; omega)))) <;> ((try refine zR2 ?_) <;> (repeat' (with_reducible first | refine And.intro ?_ ?_ | intro _))))))
      all_goals (first | (exfalso; omega) | skip)
      refine l_call rfl zEvs rfl (valueOf_spec x a h64 hx) zTake zFsub ?_
      rintro _ L' F' ⟨v, p, hV, hv53, hp1, hp2, z, mz, rfl, rfl, rfl⟩
      have hv1000 : v.natAbs < 4294967296 ^ 1000 := Nat.lt_trans hv53 (by decide +kernel)
      all_goals ((try refine zR2 ?_) <;> (repeat' (with_reducible first | refine And.intro ?_ ?_ | intro _)))
      rename_i bB
      have hS := fun R hR => Sign_spec z v mz R hR
      have hT := fun R hR => TrailingZeroBits_spec z v mz R hR hv1000
      by_cases h0 : v = 0
      · have hb : isModB x = true := hiff2.2 (by
          have := hV
          rw [h0] at this
          exact ⟨0, by rw [this.zero, Int.zero_mul]⟩)
        rw [hb]
        have hs : sgn v = 0 := sgn_zero.2 h0
        rw [hs] at hS
        refine c_draw ([14], []) [.box bB [ptr z, .int .i64 p] 111, oInt z v mz] [0, 1, 2, 3, 4, 5, 6, 7, 8, 9, 10, 11, 12, 13, 14] (by kernel_rfl) (by kernel_rfl) ?_
        all_goals ((try refine zD2 ?_) <;> (repeat' (with_reducible first | refine And.intro ?_ ?_ | intro _)))
        refine l_callVA rfl zEvs rfl (hS _ zMem) zFsub ?_
        all_goals ((try refine zD2 ?_) <;> (repeat' (with_reducible first | refine And.intro ?_ ?_ | intro _)))
        (refine e_gives rfl zRes ?_; first | rfl | (simp [retVal, *]; done) | (simp_all [retVal]; done) | (simp only [retVal]))
      · have htw : twos v.natAbs ≤ 53 := twos_blen hv53
        have hdv := dvd_twos hV h0 hp1
        have hb : isModB x = decide (-60 ≤ p + (twos v.natAbs : Int)) := by
          rw [Bool.eq_iff_iff, decide_eq_true_eq, hiff2]
          exact hdv
        rw [hb]
        clear hb hdv hiff2
        obtain ⟨s, hs, hs0⟩ : ∃ s, sgn v = s ∧ (s = 1 ∨ s = -1) := ⟨_, rfl, by unfold sgn; rw [if_neg h0]; split <;> simp⟩
        rw [hs] at hS
        rcases hs0 with rfl | rfl
        · skip
          refine c_draw ([14], []) [.box bB [ptr z, .int .i64 p] 111, oInt z v mz] [0, 1, 2, 3, 4, 5, 6, 7, 8, 9, 10, 11, 12, 13, 14] (by kernel_rfl) (by kernel_rfl) ?_
          all_goals ((try refine zD2 ?_) <;> (repeat' (with_reducible first | refine And.intro ?_ ?_ | intro _)))
          refine l_callVA rfl zEvs rfl (hS _ zMem) zFsub ?_
          all_goals ((try refine zD2 ?_) <;> (repeat' (with_reducible first | refine And.intro ?_ ?_ | intro _)))
          refine l_callVA rfl zEvs rfl (hT _ zMem) zFsub ?_
          all_goals ((try refine zD2 ?_) <;> (repeat' (with_reducible first | refine And.intro ?_ ?_ | intro _)))
          (refine e_gives rfl zRes ?_; first | rfl | (simp [retVal, *]; done) | (simp_all [retVal]; done) | (simp only [retVal]))
        · skip
          refine c_draw ([14], []) [.box bB [ptr z, .int .i64 p] 111, oInt z v mz] [0, 1, 2, 3, 4, 5, 6, 7, 8, 9, 10, 11, 12, 13, 14] (by kernel_rfl) (by kernel_rfl) ?_
          all_goals ((try refine zD2 ?_) <;> (repeat' (with_reducible first | refine And.intro ?_ ?_ | intro _)))
          refine l_callVA rfl zEvs rfl (hS _ zMem) zFsub ?_
          all_goals ((try refine zD2 ?_) <;> (repeat' (with_reducible first | refine And.intro ?_ ?_ | intro _)))
          refine l_callVA rfl zEvs rfl (hT _ zMem) zFsub ?_
          all_goals ((try refine zD2 ?_) <;> (repeat' (with_reducible first | refine And.intro ?_ ?_ | intro _)))
          (refine e_gives rfl zRes ?_; first | rfl | (simp [retVal, *]; done) | (simp_all [retVal]; done) | (simp only [retVal]))
    · have hb : isModB x = false := by
        cases h : isModB x with
        | false => rfl
        | true => exact absurd (hiff.1 h).1 hfit
      rw [hb]
      clear hiff
      generalize 2 ^ 1104 = M at hfit hp hn
      all_goals (((try refine zR2 ?_) <;> (repeat' (with_reducible first | refine And.intro ?_ ?_ | intro _))) <;> (repeat' ((first | ((with_reducible apply l_callP); exact rfl; exact zEvs; exact rfl; (with_reducible apply hI); (case hF => exact zFsub); (try any_goals (refine propId ?_; omega)))) <;> ((try refine zR2 ?_) <;> (repeat' (with_reducible first | refine And.intro ?_ ?_ | intro _))))))
      all_goals (first | (exfalso; omega) | skip)
      all_goals (refine e_gives rfl zRes ?_; first | rfl | (simp [retVal, *]; done) | (simp_all [retVal]; done) | (simp only [retVal]))
end Go.Proofs.YtbllgmcpebifhaaGreatDoor.K
