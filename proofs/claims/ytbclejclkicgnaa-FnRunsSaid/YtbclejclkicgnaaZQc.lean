/- Floats of any kind: sizes; the reference's and the program's first functions at them. -/
import Derived.Test.YtbclejclkicgnaaZQb
import Derived.Laws.BitsAllLaws

section
namespace Go.Proofs.Ytbclejclkicgnaa.K
open Go Go.RowKit Ieee
set_option linter.all false
set_option maxRecDepth 4000
set_option maxHeartbeats 1000000
set_option exponentiation.threshold 8000

theorem FW.nf {e : Nat} (u : FW e) : nf u.1 = e := u.2
theorem nf_mod (x : Nat) : nf (x % 18446744073709551616) = nf x := by
  unfold K.nf
  rw [nanB_mod, Nat.mod_mod]
theorem nf_cong {x y : Nat} (h : x % 18446744073709551616 = y % 18446744073709551616) : nf x = nf y := by rw [← nf_mod x, h, nf_mod]
/-- The size of a float. -/
def fabs (x : Nat) : Nat := nf (absB x)
theorem absB_eq (x : Nat) : absB x = x % 9223372036854775808 := rfl
theorem read_neg' (x : Nat) : (double.read x).neg = (x / 9223372036854775808 % 2 == 1) := by
  unfold Format.read
  rw [sw]
  dsimp only
  repeat' split
  all_goals rfl
theorem read_zero : double.read 0 = .number false 0 (-1074) := by decide +kernel
theorem order0 (x : Nat) : double.order x 0 = match double.read x with
    | .nan .. => none
    | .infinity s => some (if s then .lt else .gt)
    | .number s m _ => some (if m = 0 then .eq else if s then .lt else .gt) := by
  unfold Format.order
  rw [read_zero]
  cases double.read x with
  | nan s f => rfl
  | infinity s => rfl
  | number s m i =>
    show some (compare (signed s m _) (signed false 0 _)) = _
    generalize (i - min i (-1074)).toNat = k
    generalize (-1074 - min i (-1074) : Int).toNat = j
    have e0 : signed false 0 j = 0 := by simp [signed]
    have hp : 0 < 2 ^ k := Nat.pow_pos (by omega)
    rw [e0]
    dsimp only
    congr 1
    by_cases h0 : m = 0
    · subst h0
      have : signed s 0 k = 0 := by cases s <;> simp [signed]
      rw [this, if_pos rfl]; rfl
    · rw [if_neg h0]
      have h1 : 0 < m * 2 ^ k := Nat.mul_pos (by omega) hp
      cases s with
      | true =>
        rw [if_pos rfl]
        refine (cmp_eq _ _).2.1.2 ?_
        show -((m <<< k : Nat) : Int) < 0
        rw [Nat.shiftLeft_eq]
        generalize m * 2 ^ k = z at h1
        omega
      | false =>
        rw [if_neg (by simp)]
        refine (cmp_eq _ _).2.2.2 ?_
        show 0 < ((m <<< k : Nat) : Int)
        rw [Nat.shiftLeft_eq]
        generalize m * 2 ^ k = z at h1
        omega
theorem xor_top (x : Nat) (h : x / 9223372036854775808 % 2 = 1) : (x ^^^ 9223372036854775808) % 18446744073709551616 = x % 9223372036854775808 := by
  have e : (9223372036854775808 : Nat) = 2 ^ 63 := by decide
  have h1 : (x ^^^ 9223372036854775808) % 9223372036854775808 = x % 9223372036854775808 := by
    rw [e, Nat.xor_mod_two_pow, Nat.mod_self, Nat.xor_zero]
  have h2 : (x ^^^ 9223372036854775808) / 9223372036854775808 % 2 = 0 := by
    rw [e, Nat.xor_div_two_pow, Nat.div_self (Nat.pow_pos (by omega))]
    have h3 := Nat.xor_mod_two_pow (a := x / 2 ^ 63) (b := 1) (n := 1)
    rw [show (2 : Nat) ^ 1 = 2 by decide] at h3
    rw [h3, ← e, h]; decide
  omega
theorem abs_lss {x : Nat} (h : fcmp .lss x 0 = true) : fneg x = fabs x := by
  have hs : x / 9223372036854775808 % 2 = 1 := by
    have h1 := read_neg' x
    simp only [fcmp, order0] at h
    have h2 : (double.read x).neg = true := by
      cases hr : double.read x with
      | nan s f => rw [hr] at h; simp at h
      | infinity s => rw [hr] at h; cases s <;> simp_all [Datum.neg]
      | number s m i =>
        rw [hr] at h
        cases s with
        | true => rfl
        | false => by_cases h0 : m = 0 <;> simp [h0] at h
    rw [h2] at h1
    simpa using h1.symm
  unfold fneg fabs
  refine nf_cong ?_
  have e : Op.negFloat .f64 x = x ^^^ 9223372036854775808 := rfl
  rw [e, absB_eq, xor_top x hs]; omega
theorem abs_eql {x : Nat} (h : fcmp .eql x 0 = true) : fabs x = 0 := by
  simp only [fcmp, order0] at h
  have h1 : x % 9223372036854775808 = 0 := by
    cases hr : double.read x with
    | nan s f => rw [hr] at h; simp at h
    | infinity s => rw [hr] at h; cases s <;> simp at h
    | number s m i =>
      rw [hr] at h
      have hm : m = 0 := by
        by_cases h0 : m = 0
        · exact h0
        · exfalso; cases s <;> simp [h0] at h
      subst hm
      unfold Format.read at hr
      rw [sw, bn] at hr
      dsimp only at hr
      split at hr
      · injection hr with _ h2 _
      · split at hr
        · injection hr with _ h2 _; omega
        · split at hr <;> cases hr
  unfold fabs
  rw [absB_eq, h1]
  decide +kernel
theorem nan_abs (x : Nat) : nanB (absB x) = nanB x := by
  have e1 : x % 9223372036854775808 % 9223372036854775808 = x % 9223372036854775808 := Nat.mod_mod _ _
  unfold nanB Format.read
  rw [sw, absB_eq, e1]
  dsimp only
  repeat' split
  all_goals first | rfl | omega
theorem abs_else {x : Nat} (h1 : fcmp .lss x 0 = false) (h2 : fcmp .eql x 0 = false) : nf x = fabs x := by
  unfold fabs
  cases hn : nanB x with
  | true => rw [nf_nan hn, nf_nan (by rw [nan_abs, hn])]
  | false =>
    refine nf_cong ?_
    have h3 := read_neg' x
    simp only [fcmp, order0] at h1 h2
    have hs : (double.read x).neg = false := by
      cases hr : double.read x with
      | nan s f => unfold nanB at hn; rw [hr] at hn; cases hn
      | infinity s => rw [hr] at h1; cases s with
        | true => simp at h1
        | false => rfl
      | number s m i =>
        rw [hr] at h1 h2
        cases s with
        | false => rfl
        | true => by_cases h0 : m = 0 <;> simp [h0] at h1 h2
    rw [hs] at h3
    have h4 : ¬ x / 9223372036854775808 % 2 = 1 := by simpa using h3.symm
    rw [absB_eq]
    omega
theorem fabs_nf (x : Nat) : fabs (nf x) = fabs x := by
  unfold fabs
  cases hn : nanB x with
  | true => rw [nf_nan (by rw [nan_abs, nanB_nf, hn]), nf_nan (by rw [nan_abs, hn])]
  | false => rw [nf_num hn, absB_eq, absB_eq]; exact congrArg nf (by omega)
theorem nf_fabs (x : Nat) : nf (fabs x) = fabs x := nf_nf _
theorem FW.fa {e : Nat} (u : FW e) : fabs u.1 = fabs e := by rw [← fabs_nf, u.2]
theorem CW.fa1 {e : Nat × Nat} (u : CW e) : fabs u.1.1 = fabs e.1 := by rw [← fabs_nf, u.2.1]
theorem CW.fa2 {e : Nat × Nat} (u : CW e) : fabs u.1.2 = fabs e.2 := by rw [← fabs_nf, u.2.2]
theorem abs_bits (x : Nat) : bits .andNot .u64 (x : Int) 9223372036854775808 = ((absB x : Nat) : Int) := by
  have e : BitVec.ofInt 64 (x : Int) = BitVec.ofInt 64 ((x % 18446744073709551616 : Nat) : Int) := by
    apply BitVec.eq_of_toNat_eq
    simp
    omega
  have h := u64_andNot_nat (x % 18446744073709551616) 9223372036854775808 (Nat.mod_lt _ (by decide)) (by decide)
  have h2 : bits .andNot .u64 (x : Int) 9223372036854775808 = bits .andNot .u64 ((x % 18446744073709551616 : Nat) : Int) 9223372036854775808 := by
    show IntKind.u64.wrap ((BitVec.ofInt 64 (x : Int) &&& ~~~BitVec.ofInt 64 9223372036854775808).toNat : Int) = IntKind.u64.wrap ((BitVec.ofInt 64 ((x % 18446744073709551616 : Nat) : Int) &&& ~~~BitVec.ofInt 64 9223372036854775808).toNat : Int)
    rw [e]
  rw [h2]
  refine h.trans ?_
  congr 1
  have e63 : 18446744073709551615 - 9223372036854775808 = 2 ^ 63 - 1 := by decide
  rw [e63, Nat.and_two_pow_sub_one_eq_mod, absB_eq]
  omega

/-! finite -/
def ffin (x : Nat) : Bool := fcmp .eql (fop .sub x x) 0
def cfin (z : Nat × Nat) : Bool := ffin z.1 && ffin z.2
def csize (z : Nat × Nat) : Nat := fop .add (fabs z.1) (fabs z.2)
theorem ffin_nf (x : Nat) : ffin (nf x) = ffin x := by unfold ffin; rw [fop_l, fop_r]
theorem cfin_nf (z : Nat × Nat) : cfin (nf2 z) = cfin z := by simp only [cfin, nf2, ffin_nf]
theorem FW.fin {e : Nat} (u : FW e) : ffin u.1 = ffin e := by rw [← ffin_nf, u.2]
theorem CW.eq {e : Nat × Nat} (u : CW e) : nf2 u.1 = e := Prod.ext u.2.1 u.2.2
theorem CW.fin {e : Nat × Nat} (u : CW e) : cfin u.1 = cfin e := by rw [← cfin_nf, u.eq]
theorem CW.canon {e : Nat × Nat} (u : CW e) : nf2 e = e := by rw [← u.eq]; exact Prod.ext (nf_nf _) (nf_nf _)
theorem nf2_nf2 (z : Nat × Nat) : nf2 (nf2 z) = nf2 z := Prod.ext (nf_nf _) (nf_nf _)
theorem nf2_cadd (a b : Nat × Nat) : nf2 (cadd a b) = cadd a b := Prod.ext (nf_fop _ _ _) (nf_fop _ _ _)
theorem nf2_csub (a b : Nat × Nat) : nf2 (csub a b) = csub a b := Prod.ext (nf_fop _ _ _) (nf_fop _ _ _)
theorem nf2_cmul (a b : Nat × Nat) : nf2 (cmul a b) = cmul a b := Prod.ext (nf_fop _ _ _) (nf_fop _ _ _)
theorem nf2_cdiv (a b : Nat × Nat) : nf2 (cdiv a b) = cdiv a b := by
  unfold cdiv
  split <;> exact Prod.ext (nf_fop _ _ _) (nf_fop _ _ _)
theorem cadd_l (a b : Nat × Nat) : cadd (nf2 a) b = cadd a b := Prod.ext (fop_l _ _ _) (fop_l _ _ _)
theorem cadd_r (a b : Nat × Nat) : cadd a (nf2 b) = cadd a b := Prod.ext (fop_r _ _ _) (fop_r _ _ _)
theorem csub_l (a b : Nat × Nat) : csub (nf2 a) b = csub a b := Prod.ext (fop_l _ _ _) (fop_l _ _ _)
theorem csub_r (a b : Nat × Nat) : csub a (nf2 b) = csub a b := Prod.ext (fop_r _ _ _) (fop_r _ _ _)
theorem cmul_l (a b : Nat × Nat) : cmul (nf2 a) b = cmul a b := by simp only [cmul, nf2, fop_l]
theorem cmul_r (a b : Nat × Nat) : cmul a (nf2 b) = cmul a b := by simp only [cmul, nf2, fop_r]
theorem absB_nf (x : Nat) : nf (absB (nf x)) = nf (absB x) := fabs_nf x
theorem cdiv_l (a b : Nat × Nat) : cdiv (nf2 a) b = cdiv a b := by simp only [cdiv, nf2, fop_l, fop_r]
theorem cdiv_r (a b : Nat × Nat) : cdiv a (nf2 b) = cdiv a b := by
  have h : fcmp .geq (absB (nf b.1)) (absB (nf b.2)) = fcmp .geq (absB b.1) (absB b.2) := fcmp_eq (absB_nf _) (absB_nf _)
  simp only [cdiv, nf2, fop_l, fop_r, h]
theorem ceq_l (a b : Nat × Nat) : ceq (nf2 a) b = ceq a b := by simp only [ceq, nf2, fcmp_l]
theorem ceq_r (a b : Nat × Nat) : ceq a (nf2 b) = ceq a b := by simp only [ceq, nf2, fcmp_r]
theorem csize_nf (z : Nat × Nat) : csize (nf2 z) = csize z := by simp only [csize, nf2, fabs_nf]
theorem nf_csize (z : Nat × Nat) : nf (csize z) = csize z := nf_fop _ _ _

/-! the reference's functions -/
theorem l01Real_spec (x : Nat) : Spec Try.prog 59 [.float .f64 x] [] [] (Gives (.bool (ffin x))) := by
  refine enter Try.func59 Try.ntmps59 rfl (by kernel_rfl) zCon rfl fun G => ?_
  all_goals ((try refine zR3 ?_) <;> (repeat' (with_reducible first | refine And.intro ?_ ?_ | intro _)))
  refine e_gives rfl zRes ?_
  simp [retVal, ffin, FW.cl]
theorem l01Finite_spec (a b : Nat) : Spec Try.prog 43 [.complex .f64 a b] [] [] (Gives (.bool (cfin (a, b)))) := by
  refine enter Try.func43 Try.ntmps43 rfl (by kernel_rfl) zCon rfl fun G => ?_
  have h1 := l01Real_spec a
  have h2 := l01Real_spec b
  all_goals (((try refine zR3 ?_) <;> (repeat' (with_reducible first | refine And.intro ?_ ?_ | intro _))) <;> (repeat' ((first | ((with_reducible apply l_callP); exact rfl; exact zEvs; exact rfl; (with_reducible apply h1); (case hF => exact zFsub); (try any_goals (refine propId ?_; omega))) | ((with_reducible apply l_callP); exact rfl; exact zEvs; exact rfl; (with_reducible apply h2); (case hF => exact zFsub); (try any_goals (refine propId ?_; omega)))) <;> ((try refine zR3 ?_) <;> (repeat' (with_reducible first | refine And.intro ?_ ?_ | intro _))))))
  all_goals (refine e_gives rfl zRes ?_; simp [retVal, cfin, *])
theorem l01Times_spec (a1 a2 b1 b2 : Nat) : Spec Try.prog 52 [.complex .f64 a1 a2, .complex .f64 b1 b2] [] [] (PM (fun u : CW (cmul (a1, a2) (b1, b2)) => .complex .f64 u.1.1 u.1.2) fun _ => []) := by
  refine enter Try.func52 Try.ntmps52 rfl (by kernel_rfl) zCon rfl fun G => ?_
  all_goals ((try refine zR3 ?_) <;> (repeat' (with_reducible first | refine And.intro ?_ ?_ | intro _)))
  refine e_pm ⟨(_, _), ?_⟩ rfl zRes .nil rfl
  simp [cmul, FW.nf, FW.fl, FW.fr]
theorem l01Abs_spec (x : Nat) : Spec Try.prog 72 [.float .f64 x] [] [] (PM (fun u : FW (fabs x) => .float .f64 u.1) fun _ => []) := by
  refine enter Try.func72 Try.ntmps72 rfl (by kernel_rfl) zCon rfl fun G => ?_
  all_goals ((try refine zR3 ?_) <;> (repeat' (with_reducible first | refine And.intro ?_ ?_ | intro _)))
  · refine e_pm ⟨_, ?_⟩ rfl zRes .nil rfl
    rw [FW.nf, abs_lss (by assumption)]
  · refine e_pm ⟨_, ?_⟩ rfl zRes .nil rfl
    rw [abs_eql (by assumption)]
    decide +kernel
  · exact e_pm ⟨_, abs_else (by assumption) (by assumption)⟩ rfl zRes .nil rfl
theorem l01Size_spec (a b : Nat) : Spec Try.prog 61 [.complex .f64 a b] [] [] (PM (fun u : FW (csize (a, b)) => .float .f64 u.1) fun _ => []) := by
  refine enter Try.func61 Try.ntmps61 rfl (by kernel_rfl) zCon rfl fun G => ?_
  all_goals (((try refine zR3 ?_) <;> (repeat' (with_reducible first | refine And.intro ?_ ?_ | intro _))) <;> (repeat' ((first | ((with_reducible apply l_callM); exact rfl; exact rfl; exact zEvs; exact rfl; (apply l01Abs_spec); (case hL => exact zTake); (case hF => exact zFsub); (with_reducible intro _); (try any_goals (refine propId ?_; omega)))) <;> ((try refine zR3 ?_) <;> (repeat' (with_reducible first | refine And.intro ?_ ?_ | intro _))))))
  refine e_pm ⟨_, ?_⟩ rfl zRes .nil rfl
  simp [csize, FW.nf, FW.fl, FW.fr]
end Go.Proofs.Ytbclejclkicgnaa.K
end

section
/- The program's first functions at floats of any kind; the sheet and what it does. -/
namespace Go.Proofs.Ytbclejclkicgnaa.K
open Go Go.RowKit Ieee
set_option linter.all false
set_option maxRecDepth 4000
set_option maxHeartbeats 1000000

/-- Just a value. -/
abbrev PU (v : Value) : Value → List Own → List Fact → Prop := PM (fun _ : Unit => v) fun _ => []
abbrev PF (e : Nat) : Value → List Own → List Fact → Prop := PM (fun u : FW e => .float .f64 u.1) fun _ => []
abbrev PC (e : Nat × Nat) : Value → List Own → List Fact → Prop := PM (fun u : CW e => .complex .f64 u.1.1 u.1.2) fun _ => []

theorem isReal_spec (x : Nat) : Spec Try.prog 58 [.float .f64 x] [] [] (Gives (.bool (ffin x))) := by
  refine enter Try.func58 Try.ntmps58 rfl (by kernel_rfl) zCon rfl fun G => ?_
  all_goals ((try refine zR3 ?_) <;> (repeat' (with_reducible first | refine And.intro ?_ ?_ | intro _)))
  refine e_gives rfl zRes ?_
  simp [retVal, ffin, FW.cl]
theorem IsFinite_spec (a b : Nat) : Spec Try.prog 39 [.complex .f64 a b] [] [] (PU (.bool (cfin (a, b)))) := by
  refine enter Try.func39 Try.ntmps39 rfl (by kernel_rfl) zCon rfl fun G => ?_
  have h1 := isReal_spec a
  have h2 := isReal_spec b
  all_goals (((try refine zR3 ?_) <;> (repeat' (with_reducible first | refine And.intro ?_ ?_ | intro _))) <;> (repeat' ((first | ((with_reducible apply l_callP); exact rfl; exact zEvs; exact rfl; (with_reducible apply h1); (case hF => exact zFsub); (try any_goals (refine propId ?_; omega))) | ((with_reducible apply l_callP); exact rfl; exact zEvs; exact rfl; (with_reducible apply h2); (case hF => exact zFsub); (try any_goals (refine propId ?_; omega)))) <;> ((try refine zR3 ?_) <;> (repeat' (with_reducible first | refine And.intro ?_ ?_ | intro _))))))
  all_goals (refine e_pm () rfl zRes .nil ?_; simp [retVal, cfin, *])
theorem add_spec (a1 a2 b1 b2 : Nat) : Spec Try.prog 34 [.complex .f64 a1 a2, .complex .f64 b1 b2] [] [] (PC (cadd (a1, a2) (b1, b2))) := by
  refine enter Try.func34 Try.ntmps34 rfl (by kernel_rfl) zCon rfl fun G => ?_
  all_goals ((try refine zR3 ?_) <;> (repeat' (with_reducible first | refine And.intro ?_ ?_ | intro _)))
  exact e_pm ⟨(_, _), FW.nf _, FW.nf _⟩ rfl zRes .nil rfl
theorem subtract_spec (a1 a2 b1 b2 : Nat) : Spec Try.prog 35 [.complex .f64 a1 a2, .complex .f64 b1 b2] [] [] (PC (csub (a1, a2) (b1, b2))) := by
  refine enter Try.func35 Try.ntmps35 rfl (by kernel_rfl) zCon rfl fun G => ?_
  all_goals ((try refine zR3 ?_) <;> (repeat' (with_reducible first | refine And.intro ?_ ?_ | intro _)))
  exact e_pm ⟨(_, _), FW.nf _, FW.nf _⟩ rfl zRes .nil rfl
theorem multiply_spec (a1 a2 b1 b2 : Nat) : Spec Try.prog 36 [.complex .f64 a1 a2, .complex .f64 b1 b2] [] [] (PC (cmul (a1, a2) (b1, b2))) := by
  refine enter Try.func36 Try.ntmps36 rfl (by kernel_rfl) zCon rfl fun G => ?_
  all_goals ((try refine zR3 ?_) <;> (repeat' (with_reducible first | refine And.intro ?_ ?_ | intro _)))
  refine e_pm ⟨(_, _), ?_⟩ rfl zRes .nil rfl
  simp [cmul, FW.nf, FW.fl, FW.fr]
theorem Abs_spec (x : Nat) : Spec Try.prog 57 [.float .f64 x] [] [] (Gives (.float .f64 (absB x))) := by
  have h1 := abs_bits x
  refine enter Try.func57 Try.ntmps57 rfl (by kernel_rfl) zCon rfl fun G => ?_
  all_goals ((try refine zR3 ?_) <;> (repeat' (with_reducible first | refine And.intro ?_ ?_ | intro _)))
  (refine e_gives rfl zRes ?_; first | rfl | (simp [retVal, *]; done) | (simp_all [retVal]; done) | (simp only [retVal]))
theorem sizeOf_spec (a b : Nat) : Spec Try.prog 38 [.complex .f64 a b] [] [] (PF (csize (a, b))) := by
  refine enter Try.func38 Try.ntmps38 rfl (by kernel_rfl) zCon rfl fun G => ?_
  have h1 := Abs_spec a
  have h2 := Abs_spec b
  all_goals (((try refine zR3 ?_) <;> (repeat' (with_reducible first | refine And.intro ?_ ?_ | intro _))) <;> (repeat' ((first | ((with_reducible apply l_callP); exact rfl; exact zEvs; exact rfl; (with_reducible apply h1); (case hF => exact zFsub); (try any_goals (refine propId ?_; omega))) | ((with_reducible apply l_callP); exact rfl; exact zEvs; exact rfl; (with_reducible apply h2); (case hF => exact zFsub); (try any_goals (refine propId ?_; omega)))) <;> ((try refine zR3 ?_) <;> (repeat' (with_reducible first | refine And.intro ?_ ?_ | intro _))))))
  refine e_pm ⟨_, ?_⟩ rfl zRes .nil rfl
  simp [csize, FW.nf, fabs, fop_l, fop_r]
theorem divide_spec (a1 a2 b1 b2 : Nat) : Spec Try.prog 37 [.complex .f64 a1 a2, .complex .f64 b1 b2] [] [] (PC (cdiv (a1, a2) (b1, b2))) := by
  refine enter Try.func37 Try.ntmps37 rfl (by kernel_rfl) zCon rfl fun G => ?_
  have h1 := Abs_spec b1
  have h2 := Abs_spec b2
  all_goals (((try refine zR3 ?_) <;> (repeat' (with_reducible first | refine And.intro ?_ ?_ | intro _))) <;> (repeat' ((first | ((with_reducible apply l_callP); exact rfl; exact zEvs; exact rfl; (with_reducible apply h1); (case hF => exact zFsub); (try any_goals (refine propId ?_; omega))) | ((with_reducible apply l_callP); exact rfl; exact zEvs; exact rfl; (with_reducible apply h2); (case hF => exact zFsub); (try any_goals (refine propId ?_; omega)))) <;> ((try refine zR3 ?_) <;> (repeat' (with_reducible first | refine And.intro ?_ ?_ | intro _))))))
  · have h : fcmp .geq (absB b1) (absB b2) = true := by assumption
    refine e_pm ⟨(_, _), ?_⟩ rfl zRes .nil rfl
    simp [cdiv, h, FW.nf, FW.fl, FW.fr]
  · have h : fcmp .geq (absB b1) (absB b2) = false := by assumption
    refine e_pm ⟨(_, _), ?_⟩ rfl zRes .nil rfl
    simp [cdiv, h, FW.nf, FW.fl, FW.fr]

/-! ### the sheet -/
abbrev fnv (k : Nat) : Value := .func (.func k) #[] #[]
abbrev fieldCells : List Value := [fnv 33, fnv 34, fnv 35, fnv 36, fnv 37, fnv 38, fnv 39, fnv 40]
abbrev pt (b : Nat) : Value := .pointer (some ⟨b, 0, none⟩)
/-- The sheet with a code. -/
abbrev oSh (b : Nat) (c : Int) : Own := .box b [fnv 33, fnv 34, fnv 35, fnv 36, fnv 37, fnv 38, fnv 39, fnv 40, .int .i64 c] 77
/-- The code after a look. -/
def lk (c : Int) (z : Nat × Nat) : Int := bif decide (c = 0) && !cfin z then 3 else c
theorem lk_nf (c : Int) (z : Nat × Nat) : lk c (nf2 z) = lk c z := by unfold lk; rw [cfin_nf]
theorem CW.lk {e : Nat × Nat} (u : CW e) (c : Int) : K.lk c u.1 = K.lk c e := by rw [← lk_nf, u.eq]
theorem CW.lk' {e : Nat × Nat} (u : CW e) (c : Int) : K.lk c (u.1.1, u.1.2) = K.lk c e := u.lk c
/-- The sheet is left with a code; a number is handed back. -/
abbrev PSh (b : Nat) (e : Nat × Nat) (c : Int) : Value → List Own → List Fact → Prop := PM (fun u : CW e => .complex .f64 u.1.1 u.1.2) fun _ => [oSh b c]

theorem wide1_spec (k : Int) : Spec Try.prog 33 [.int .i64 k] [] [] (PU (.complex .f64 (floatOfInt .f64 k) 0)) := by
  refine enter Try.func33 Try.ntmps33 rfl (by kernel_rfl) zCon rfl fun G => ?_
  all_goals ((try refine zR3 ?_) <;> (repeat' (with_reducible first | refine And.intro ?_ ?_ | intro _)))
  exact e_pm () rfl zRes .nil rfl
theorem look_spec (b : Nat) (c : Int) (z1 z2 : Nat) : Spec Try.prog 78 [pt b, .complex .f64 z1 z2] [oSh b c] [] (PM (fun _ : Unit => .complex .f64 z1 z2) fun _ => [oSh b (lk c (z1, z2))]) := by
  refine enter Try.func78 Try.ntmps78 rfl (by kernel_rfl) zCon rfl fun G => ?_
  all_goals (((try refine zR3 ?_) <;> (repeat' (with_reducible first | refine And.intro ?_ ?_ | intro _))) <;> (repeat' ((first | ((with_reducible apply l_callM); exact rfl; exact rfl; exact zEvs; exact rfl; (apply IsFinite_spec); (case hL => exact zTake); (case hF => exact zFsub); (with_reducible intro _); (try any_goals (refine propId ?_; omega)))) <;> ((try refine zR3 ?_) <;> (repeat' (with_reducible first | refine And.intro ?_ ?_ | intro _))))))
  · rw [show lk c (z1, z2) = 3 by simp [lk, *]]
    exact e_pm () rfl zRes zTake rfl
  · rw [show lk c (z1, z2) = c by simp [lk, *]]
    exact e_pm () rfl zRes zTake rfl
  · rw [show lk c (z1, z2) = c by simp [lk, *]]
    exact e_pm () rfl zRes zTake rfl
theorem plus_spec (b : Nat) (c : Int) (a1 a2 b1 b2 : Nat) : Spec Try.prog 77 [pt b, .complex .f64 a1 a2, .complex .f64 b1 b2] [oSh b c] [] (PSh b (cadd (a1, a2) (b1, b2)) (lk c (cadd (a1, a2) (b1, b2)))) := by
  refine enter Try.func77 Try.ntmps77 rfl (by kernel_rfl) zCon rfl fun G => ?_
  all_goals (((try refine zR3 ?_) <;> (repeat' (with_reducible first | refine And.intro ?_ ?_ | intro _))) <;> (repeat' ((first | ((with_reducible apply l_callM); exact rfl; exact rfl; exact zEvs; exact rfl; (apply add_spec); (case hL => exact zTake); (case hF => exact zFsub); (with_reducible intro _); (try any_goals (refine propId ?_; omega))) | ((with_reducible apply l_callM); exact rfl; exact rfl; exact zEvs; exact rfl; (apply look_spec); (case hL => exact zTake); (case hF => exact zFsub); (with_reducible intro _); (try any_goals (refine propId ?_; omega)))) <;> ((try refine zR3 ?_) <;> (repeat' (with_reducible first | refine And.intro ?_ ?_ | intro _))))))
  rename_i u _
  rw [← u.lk' c]
  exact e_pm u rfl zRes zTake rfl
theorem minus_spec (b : Nat) (c : Int) (a1 a2 b1 b2 : Nat) : Spec Try.prog 63 [pt b, .complex .f64 a1 a2, .complex .f64 b1 b2] [oSh b c] [] (PSh b (csub (a1, a2) (b1, b2)) (lk c (csub (a1, a2) (b1, b2)))) := by
  refine enter Try.func63 Try.ntmps63 rfl (by kernel_rfl) zCon rfl fun G => ?_
  all_goals (((try refine zR3 ?_) <;> (repeat' (with_reducible first | refine And.intro ?_ ?_ | intro _))) <;> (repeat' ((first | ((with_reducible apply l_callM); exact rfl; exact rfl; exact zEvs; exact rfl; (apply subtract_spec); (case hL => exact zTake); (case hF => exact zFsub); (with_reducible intro _); (try any_goals (refine propId ?_; omega))) | ((with_reducible apply l_callM); exact rfl; exact rfl; exact zEvs; exact rfl; (apply look_spec); (case hL => exact zTake); (case hF => exact zFsub); (with_reducible intro _); (try any_goals (refine propId ?_; omega)))) <;> ((try refine zR3 ?_) <;> (repeat' (with_reducible first | refine And.intro ?_ ?_ | intro _))))))
  rename_i u _
  rw [← u.lk' c]
  exact e_pm u rfl zRes zTake rfl
theorem times_spec (b : Nat) (c : Int) (a1 a2 b1 b2 : Nat) : Spec Try.prog 74 [pt b, .complex .f64 a1 a2, .complex .f64 b1 b2] [oSh b c] [] (PSh b (cmul (a1, a2) (b1, b2)) (lk c (cmul (a1, a2) (b1, b2)))) := by
  refine enter Try.func74 Try.ntmps74 rfl (by kernel_rfl) zCon rfl fun G => ?_
  all_goals (((try refine zR3 ?_) <;> (repeat' (with_reducible first | refine And.intro ?_ ?_ | intro _))) <;> (repeat' ((first | ((with_reducible apply l_callM); exact rfl; exact rfl; exact zEvs; exact rfl; (apply multiply_spec); (case hL => exact zTake); (case hF => exact zFsub); (with_reducible intro _); (try any_goals (refine propId ?_; omega))) | ((with_reducible apply l_callM); exact rfl; exact rfl; exact zEvs; exact rfl; (apply look_spec); (case hL => exact zTake); (case hF => exact zFsub); (with_reducible intro _); (try any_goals (refine propId ?_; omega)))) <;> ((try refine zR3 ?_) <;> (repeat' (with_reducible first | refine And.intro ?_ ?_ | intro _))))))
  rename_i u _
  rw [← u.lk' c]
  exact e_pm u rfl zRes zTake rfl
/-- What 'by' hands back, and its code. -/
def byV (c : Int) (a b : Nat × Nat) : Nat × Nat := bif decide (c = 0) && !ceq b (0, 0) then cdiv a b else a
def byC (c : Int) (a b : Nat × Nat) : Int := bif decide (c = 0) then (bif ceq b (0, 0) then 5 else lk 0 (cdiv a b)) else c
theorem ofInt_zero : floatOfInt .f64 0 = 0 := by decide +kernel
theorem by_spec (b : Nat) (c : Int) (a1 a2 b1 b2 : Nat) : Spec Try.prog 75 [pt b, .complex .f64 a1 a2, .complex .f64 b1 b2] [oSh b c] [] (PSh b (nf2 (byV c (a1, a2) (b1, b2))) (byC c (a1, a2) (b1, b2))) := by
  refine enter Try.func75 Try.ntmps75 rfl (by kernel_rfl) zCon rfl fun G => ?_
  all_goals (((try refine zR3 ?_) <;> (repeat' (with_reducible first | refine And.intro ?_ ?_ | intro _))) <;> (repeat' ((first | ((with_reducible apply l_callM); exact rfl; exact rfl; exact zEvs; exact rfl; (apply wide1_spec); (case hL => exact zTake); (case hF => exact zFsub); (with_reducible intro _); (try any_goals (refine propId ?_; omega))) | ((with_reducible apply l_callM); exact rfl; exact rfl; exact zEvs; exact rfl; (apply divide_spec); (case hL => exact zTake); (case hF => exact zFsub); (with_reducible intro _); (try any_goals (refine propId ?_; omega))) | ((with_reducible apply l_callM); exact rfl; exact rfl; exact zEvs; exact rfl; (apply look_spec); (case hL => exact zTake); (case hF => exact zFsub); (with_reducible intro _); (try any_goals (refine propId ?_; omega)))) <;> ((try refine zR3 ?_) <;> (repeat' (with_reducible first | refine And.intro ?_ ?_ | intro _))))))
  · have hc : ¬ c = 0 := by assumption
    rw [show byC c (a1, a2) (b1, b2) = c by simp [byC, hc]]
    exact e_pm ⟨(a1, a2), by simp [byV, hc, nf2]⟩ rfl zRes zTake rfl
  · have hc : c = 0 := Decidable.of_not_not (by assumption)
    have h : ceq (b1, b2) (floatOfInt .f64 0, 0) = true := by assumption
    rw [ofInt_zero] at h
    rw [show byC c (a1, a2) (b1, b2) = 5 by simp [byC, hc, h]]
    exact e_pm ⟨(a1, a2), by simp [byV, hc, h, nf2]⟩ rfl zRes zTake rfl
  · rename_i hc _ h u _
    have hc : c = 0 := Decidable.of_not_not (by assumption)
    have h : ceq (b1, b2) (floatOfInt .f64 0, 0) = false := by assumption
    rw [ofInt_zero] at h
    subst hc
    rw [show byC 0 (a1, a2) (b1, b2) = lk 0 (cdiv (a1, a2) (b1, b2)) by simp [byC, h], ← u.lk' 0]
    exact e_pm ⟨u.1, by simp [byV, h, nf2_cdiv, u.2]⟩ rfl zRes zTake rfl

/-! ### values -/
section
variable {G : Ctx} {n : Nat} {P : Program} {ops : Array Oper} {Q : Post} {rest : List Oper} {m : Regs} {L L' : List Own} {F : List Fact}
/-- What is owned and written no more is lasting. -/
theorem St.keepOwn {a : Act} {w : World} {o : Own} (st : St G n m L F a w) (he : Era L o L') : St G n m L' (fOwn o :: F) a w := by
  have ho := st.own.all _ he.mem
  refine (st.era he).fact ⟨ho, fun x hx => ⟨Own.key_lt ho hx, ?_⟩⟩
  rintro (h | h)
  · exact st.xkeys h ⟨_, he.mem, hx⟩
  · exact (he.apart st.own.apart).2 x hx h
theorem l_keepOwn {o : Own} (he : Era L o L') (h : RunL G n P ops Q rest m L' (fOwn o :: F)) : RunL G n P ops Q rest m L F := fun a w st => h a w (st.keepOwn he)
theorem c_keepOwn {c : Code} {o : Own} (he : Era L o L') (h : RunC G n P c Q m L' (fOwn o :: F)) : RunC G n P c Q m L F := fun a w st => h a w (st.keepOwn he)
end
theorem CW.cadd2 {a b : Nat × Nat} (u : CW a) (v : CW b) : cadd (u.1.1, u.1.2) (v.1.1, v.1.2) = cadd a b := by
  show cadd u.1 v.1 = _
  rw [← cadd_l, ← cadd_r, u.eq, v.eq]
theorem CW.csub2 {a b : Nat × Nat} (u : CW a) (v : CW b) : csub (u.1.1, u.1.2) (v.1.1, v.1.2) = csub a b := by
  show csub u.1 v.1 = _
  rw [← csub_l, ← csub_r, u.eq, v.eq]
theorem CW.cmul2 {a b : Nat × Nat} (u : CW a) (v : CW b) : cmul (u.1.1, u.1.2) (v.1.1, v.1.2) = cmul a b := by
  show cmul u.1 v.1 = _
  rw [← cmul_l, ← cmul_r, u.eq, v.eq]
/-- One round of Horner's way: the number and the code. -/
def hStep (z : Nat × Nat) (g : Nat → Nat × Nat) (gc : Int → Nat → Int) (s : (Nat × Nat) × Int) (k : Nat) : (Nat × Nat) × Int :=
  (cadd (cmul s.1 z) (g k), lk (gc (lk s.2 (cmul s.1 z)) k) (cadd (cmul s.1 z) (g k)))
def hLoop (z : Nat × Nat) (g : Nat → Nat × Nat) (gc : Int → Nat → Int) (la : Nat) : Nat → (Nat × Nat) × Int → (Nat × Nat) × Int
  | 0, s => s
  | n + 1, s => hLoop z g gc la n (hStep z g gc s (la + n))
def hRun (z : Nat × Nat) (g : Nat → Nat × Nat) (gc : Int → Nat → Int) (fi la : Nat) (c : Int) : (Nat × Nat) × Int := hLoop z g gc la (fi - la) (g fi, gc c fi)
theorem horner_spec (b : Nat) (c : Int) (fi la : Nat) (z1 z2 : Nat) (f : FuncId) (cap : List Value) (g : Nat → Nat × Nat) (gc : Int → Nat → Int) (Fs : List Fact) (hfi : fi < 1000) (hla : la ≤ fi)
    (hof : ∀ (k : Nat) (c : Int), la ≤ k → k ≤ fi → Spec Try.prog f ([.int .i64 (k : Int)] ++ cap) [oSh b c] Fs (PSh b (g k) (gc c k))) :
    Spec Try.prog 84 [pt b, .int .i64 (fi : Int), .int .i64 (la : Int), .complex .f64 z1 z2, .func (.func f) #[] cap.toArray] [oSh b c] Fs
      (PSh b (nf2 (hRun (z1, z2) g gc fi la c).1) (hRun (z1, z2) g gc fi la c).2) := by
  obtain ⟨fin, hfin⟩ : ∃ r, r = hRun (z1, z2) g gc fi la c := ⟨_, rfl⟩
  rw [← hfin]
  refine enter Try.func84 Try.ntmps84 rfl (by kernel_rfl) zCon rfl fun G => ?_
  all_goals ((try refine zR3 ?_) <;> (repeat' (with_reducible first | refine And.intro ?_ ?_ | intro _)))
  refine l_callMC rfl rfl zEvs rfl (hof fi c hla (Nat.le_refl _)) zTake (fun _ h => h) fun u => ?_
  all_goals ((try refine zR3 ?_) <;> (repeat' (with_reducible first | refine And.intro ?_ ?_ | intro _)))
  refine c_while (ι := {x : Nat × (Nat × Nat) × Int // x.1 ≤ fi - la ∧ nf2 (hLoop (z1, z2) g gc la x.1 (nf2 x.2.1, x.2.2)).1 = nf2 fin.1 ∧ (hLoop (z1, z2) g gc la x.1 (nf2 x.2.1, x.2.2)).2 = fin.2}) (κ := CW (nf2 fin.1))
    (fun x => [(12, .int .i64 ((la : Int) + x.1.1 - 1)), (11, .complex .f64 x.1.2.1.1 x.1.2.1.2), (0, pt b), (2, .int .i64 (la : Int)), (3, .complex .f64 z1 z2), (4, .func (.func f) #[] cap.toArray)]) (fun x => [oSh b x.1.2.2]) (fun _ => Fs) (fun x => x.1.1)
    (fun u => [(11, .complex .f64 u.1.1 u.1.2)]) (fun _ => [oSh b fin.2]) (fun _ => Fs) ⟨(fi - la, u.1, gc c fi), Nat.le_refl _, ?_⟩ (fun _ _ s => s.start ?_ zRfl (fun _ h => h)) ?_ ?_
  · rw [u.eq]
    have hu : g fi = nf2 u.1 := u.eq.symm
    have : hRun (z1, z2) g gc fi la c = hLoop (z1, z2) g gc la (fi - la) (g fi, gc c fi) := rfl
    rw [← this, ← hfin]
    exact ⟨rfl, rfl⟩
  · have e : ((la : Int) + ((fi - la : Nat) : Int) - 1) = (fi : Int) - 1 := by omega
    dsimp only
    rw [e]
    exact zSub
  · rintro ⟨⟨n, o, cc⟩, hn, h1, h2⟩
    dsimp only at hn h1 h2 ⊢
    cases n with
    | zero =>
      all_goals ((try refine zR3 ?_) <;> (repeat' (with_reducible first | refine And.intro ?_ ?_ | intro _)))
      all_goals (first | (exfalso; omega) | skip)
      have e1 : nf2 o = nf2 fin.1 := by rw [← h1]; exact (nf2_nf2 o).symm
      have e2 : cc = fin.2 := h2
      subst e2
      exact e_out ⟨o, (Prod.ext_iff.1 e1).1, (Prod.ext_iff.1 e1).2⟩ zSub rfl (fun _ h => h)
    | succ n =>
      have hk : ((la : Int) + ((n + 1 : Nat) : Int) - 1) = ((la + n : Nat) : Int) := by omega
      rw [hk]
      have hstep : hLoop (z1, z2) g gc la (n + 1) (nf2 o, cc) = hLoop (z1, z2) g gc la n (hStep (z1, z2) g gc (nf2 o, cc) (la + n)) := rfl
      rw [hstep] at h1 h2
      simp only [hStep, cmul_l] at h1 h2
      all_goals (((try refine zR3 ?_) <;> (repeat' (with_reducible first | refine And.intro ?_ ?_ | intro _))) <;> (repeat' ((first | ((with_reducible apply l_callM); exact rfl; exact rfl; exact zEvs; exact rfl; (apply times_spec); (case hL => exact zTake); (case hF => exact zFsub); (with_reducible intro _); (try any_goals (refine propId ?_; omega)))) <;> ((try refine zR3 ?_) <;> (repeat' (with_reducible first | refine And.intro ?_ ?_ | intro _))))))
      · rename_i u
        refine l_callMC rfl rfl zEvs rfl (hof (la + n) _ (by omega) (by omega)) zTake (fun _ h => h) fun v => ?_
        all_goals (((try refine zR3 ?_) <;> (repeat' (with_reducible first | refine And.intro ?_ ?_ | intro _))) <;> (repeat' ((first | ((with_reducible apply l_callM); exact rfl; exact rfl; exact zEvs; exact rfl; (apply plus_spec); (case hL => exact zTake); (case hF => exact zFsub); (with_reducible intro _); (try any_goals (refine propId ?_; omega)))) <;> ((try refine zR3 ?_) <;> (repeat' (with_reducible first | refine And.intro ?_ ?_ | intro _))))))
        rename_i w
        have ew : nf2 w.1 = cadd (cmul o (z1, z2)) (g (la + n)) := w.eq.trans (CW.cadd2 u v)
        obtain ⟨w, hw⟩ := w
        dsimp only at ew ⊢
        clear hw
        rw [CW.cadd2 u v]
        exact e_again ⟨(n, w, lk (gc (lk cc (cmul o (z1, z2))) (la + n)) (cadd (cmul o (z1, z2)) (g (la + n)))), by omega, by dsimp only; rw [ew]; exact h1, by dsimp only; rw [ew]; exact h2⟩ (by dsimp only; omega) (by dsimp only; rw [show (la : Int) + (n : Int) - 1 = ((la + n : Nat) : Int) - 1 by omega]; exact zSub) rfl (fun _ h => h)
      · exfalso; omega
  · intro u
    all_goals ((try refine zR3 ?_) <;> (repeat' (with_reducible first | refine And.intro ?_ ?_ | intro _)))
    exact e_pm u rfl zRes zTake rfl
/-- A list's number. -/
def pg (p : List (Nat × Nat)) (k : Nat) : Nat × Nat := nf2 (p.getD k (0, 0))
theorem pg_get {p : List (Nat × Nat)} {k : Nat} {y : Nat × Nat} (h : p[k]? = some y) : pg p k = nf2 y := by simp [pg, h]
abbrev oSl (b : Nat) (v : Value) : Own := .box b [v] 24
theorem value1_spec (b bp : Nat) (c : Int) (v : Value) (p : List (Nat × Nat)) (k : Nat) (hk : k < p.length) : Spec Try.prog 85 ([.int .i64 (k : Int)] ++ [pt bp]) [oSh b c] [fOwn (oSl bp v), fList 1 rCx v p]
    (PSh b (pg p k) c) := by
  refine enter Try.func85 Try.ntmps85 rfl (by kernel_rfl) zCon rfl fun G => ?_
  obtain ⟨y, hy⟩ : ∃ y, p[k]? = some y := ⟨_, List.getElem?_eq_getElem hk⟩
  rw [pg_get hy]
  all_goals ((try refine zR3 ?_) <;> (repeat' (with_reducible first | refine And.intro ?_ ?_ | intro _)))
  exact e_pm ⟨y, rfl, rfl⟩ rfl zRes zTake rfl
/-- A polynomial's value: the number and the code. -/
def pVal (p : List (Nat × Nat)) (z : Nat × Nat) (c : Int) : (Nat × Nat) × Int := hRun z (pg p) (fun c _ => c) (p.length - 1) 0 c
theorem value_spec (b : Nat) (c : Int) (v : Value) (p : List (Nat × Nat)) (z1 z2 : Nat) (h1 : 1 ≤ p.length) (h2 : p.length ≤ 1000) : Spec Try.prog 73 [pt b, v, .complex .f64 z1 z2] [oSh b c] [fList 1 rCx v p]
    (PSh b (nf2 (pVal p (z1, z2) c).1) (pVal p (z1, z2) c).2) := by
  refine enter Try.func73 Try.ntmps73 rfl (by kernel_rfl) zCon rfl fun G => ?_
  refine c_isList (v := v) zMem fun hsv => ?_
  all_goals ((try refine zR3 ?_) <;> (repeat' (with_reducible first | refine And.intro ?_ ?_ | intro _)))
  rename_i bp _
  refine l_makeFunc rfl .nil (.cons rfl .nil) rfl ?_
  refine l_keepOwn .head ?_
  have e : (p.length : Int) - 1 = ((p.length - 1 : Nat) : Int) := by omega
  rw [e]
  refine l_callM rfl rfl zEvs rfl (horner_spec b c (p.length - 1) 0 z1 z2 _ [pt bp] (pg p) (fun c _ => c) [fOwn (oSl bp v), fList 1 rCx v p] (by omega) (by omega) fun k c _ hk => value1_spec b bp c v p k (by omega)) zTake zFsub fun u => ?_
  all_goals ((try refine zR3 ?_) <;> (repeat' (with_reducible first | refine And.intro ?_ ?_ | intro _)))
  exact e_pm u rfl zRes zTake rfl
/-- The slope's numbers and their codes. -/
def sg1 (p : List (Nat × Nat)) (k : Nat) : Nat × Nat := cmul (floatOfInt .f64 (k : Int), 0) (p.getD k (0, 0))
abbrev oSp (b s : Nat) : Own := .box b [pt s] 72
theorem slope1_spec (b bs bp : Nat) (c : Int) (v : Value) (p : List (Nat × Nat)) (k : Nat) (hk : k < p.length) : Spec Try.prog 86 ([.int .i64 (k : Int)] ++ [pt bs, pt bp]) [oSh b c] [fOwn (oSp bs b), fOwn (oSl bp v), fList 1 rCx v p]
    (PSh b (sg1 p k) (lk c (sg1 p k))) := by
  refine enter Try.func86 Try.ntmps86 rfl (by kernel_rfl) zCon rfl fun G => ?_
  obtain ⟨y, hy⟩ : ∃ y, p[k]? = some y := ⟨_, List.getElem?_eq_getElem hk⟩
  have e : sg1 p k = cmul (floatOfInt .f64 (k : Int), 0) (y.1, y.2) := by simp [sg1, hy]
  rw [e]
  all_goals ((try refine zR3 ?_) <;> (repeat' (with_reducible first | refine And.intro ?_ ?_ | intro _)))
  refine c_draw ([12, 13], []) [oSh b c] [0, 1, 2, 3, 4, 5, 6, 7, 8, 9, 10, 11, 12, 13] (by kernel_rfl) (by kernel_rfl) ?_
  all_goals ((try refine zD3 ?_) <;> (repeat' (with_reducible first | refine And.intro ?_ ?_ | intro _)))
  refine a_quiet0 (v := .complex .f64 (floatOfInt .f64 (k : Int)) 0) rfl rfl (by decide +kernel) rfl (fun w => ?_) ?_
  · exact l_callM rfl rfl zEvs rfl (wide1_spec (k : Int)) .nil (fun _ h => by cases h) fun _ => e_q rfl
  all_goals (((try refine zD3 ?_) <;> (repeat' (with_reducible first | refine And.intro ?_ ?_ | intro _))) <;> (repeat' ((first | ((with_reducible apply l_callM); exact rfl; exact rfl; exact zEvs; exact rfl; (apply times_spec); (case hL => exact zTake); (case hF => exact zFsub); (with_reducible intro _); (try any_goals (refine propId ?_; omega)))) <;> ((try refine zD3 ?_) <;> (repeat' (with_reducible first | refine And.intro ?_ ?_ | intro _))))))
  rename_i u
  exact e_pm u rfl zRes zTake rfl
/-- A slope's value: the number and the code. -/
def pSlope (p : List (Nat × Nat)) (z : Nat × Nat) (c : Int) : (Nat × Nat) × Int := hRun z (sg1 p) (fun c k => lk c (sg1 p k)) (p.length - 1) 1 c
theorem slope_spec (b : Nat) (c : Int) (v : Value) (p : List (Nat × Nat)) (z1 z2 : Nat) (h1 : 2 ≤ p.length) (h2 : p.length ≤ 1000) : Spec Try.prog 76 [pt b, v, .complex .f64 z1 z2] [oSh b c] [fList 1 rCx v p]
    (PSh b (nf2 (pSlope p (z1, z2) c).1) (pSlope p (z1, z2) c).2) := by
  refine enter Try.func76 Try.ntmps76 rfl (by kernel_rfl) zCon rfl fun G => ?_
  refine c_isList (v := v) zMem fun hsv => ?_
  all_goals ((try refine zR3 ?_) <;> (repeat' (with_reducible first | refine And.intro ?_ ?_ | intro _)))
  rename_i bs bp _
  refine l_makeFunc rfl .nil (.cons rfl (.cons rfl .nil)) rfl ?_
  refine l_keepOwn .head ?_
  refine l_keepOwn .head ?_
  have e : (p.length : Int) - 1 = ((p.length - 1 : Nat) : Int) := by omega
  rw [e]
  refine l_callM rfl rfl zEvs rfl (horner_spec b c (p.length - 1) 1 z1 z2 _ [pt bs, pt bp] (sg1 p) (fun c k => lk c (sg1 p k)) [fOwn (oSp bs b), fOwn (oSl bp v), fList 1 rCx v p] (by omega) (by omega) fun k c _ hk => slope1_spec b bs bp c v p k (by omega)) zTake zFsub fun u => ?_
  all_goals ((try refine zR3 ?_) <;> (repeat' (with_reducible first | refine And.intro ?_ ?_ | intro _)))
  exact e_pm u rfl zRes zTake rfl
end Go.Proofs.Ytbclejclkicgnaa.K
end

section
/- Plain laws of runs: values, slopes and corrections with their codes. -/
namespace Go.Proofs.Ytbclejclkicgnaa.K
open Go
set_option linter.all false

/-- The code of a truth. -/
def cd (b : Bool) : Int := bif b then 0 else 3
theorem lk_cd (b : Bool) (z : Nat × Nat) : lk (cd b) z = cd (b && cfin z) := by cases b <;> cases h : cfin z <;> simp [lk, cd, h]
theorem lk_ne {c : Int} (h : c ≠ 0) (z : Nat × Nat) : lk c z = c := by simp [lk, h]
theorem lk_zero {c : Int} {z : Nat × Nat} (h : lk c z = 0) : c = 0 ∧ cfin z = true := by
  unfold lk at h
  by_cases hc : c = 0
  · cases hz : cfin z <;> simp [hc, hz] at h ⊢
  · simp [hc] at h
theorem lk_fin {z : Nat × Nat} (h : cfin z = true) : lk 0 z = 0 := by simp [lk, h]
theorem lk_not {z : Nat × Nat} (h : cfin z = false) : lk 0 z = 3 := by simp [lk, h]
theorem cd_zero (b : Bool) : (cd b = 0) ↔ b = true := by cases b <;> simp [cd]
theorem cd_inj {a b : Bool} (h : cd a = cd b) : a = b := by cases a <;> cases b <;> simp_all [cd]

/-! Horner's way -/
theorem hLoop_val (z : Nat × Nat) (g g' : Nat → Nat × Nat) (gc gc' : Int → Nat → Int) (la la' : Nat) : ∀ (n : Nat) (o : Nat × Nat) (c c' : Int), (∀ k, k < n → g (la + k) = g' (la' + k)) → (hLoop z g gc la n (o, c)).1 = (hLoop z g' gc' la' n (o, c')).1
  | 0, _, _, _, _ => rfl
  | n + 1, o, c, c', h => by
    simp only [hLoop, hStep]
    rw [h n (by omega)]
    exact hLoop_val z g g' gc gc' la la' n _ _ _ fun k hk => h k (by omega)
theorem hLoop_nf (z : Nat × Nat) (g : Nat → Nat × Nat) (gc : Int → Nat → Int) (la : Nat) (n : Nat) (o : Nat × Nat) (c : Int) : nf2 (hLoop z g gc la n (nf2 o, c)).1 = nf2 (hLoop z g gc la n (o, c)).1 ∧ (hLoop z g gc la n (nf2 o, c)).2 = (hLoop z g gc la n (o, c)).2 := by
  cases n with
  | zero => exact ⟨nf2_nf2 o, rfl⟩
  | succ n => simp only [hLoop, hStep, cmul_l, and_self]
theorem hLoop_canon (z : Nat × Nat) (g : Nat → Nat × Nat) (gc : Int → Nat → Int) (la : Nat) : ∀ (n : Nat) (o : Nat × Nat) (c : Int), nf2 o = o → nf2 (hLoop z g gc la n (o, c)).1 = (hLoop z g gc la n (o, c)).1
  | 0, _, _, h => h
  | n + 1, _, _, _ => hLoop_canon z g gc la n _ _ (nf2_cadd _ _)
theorem pVal_canon (p : List (Nat × Nat)) (z : Nat × Nat) (c : Int) : nf2 (pVal p z c).1 = (pVal p z c).1 := hLoop_canon _ _ _ _ _ _ _ (nf2_nf2 _)
theorem sg1_canon (p : List (Nat × Nat)) (k : Nat) : nf2 (sg1 p k) = sg1 p k := nf2_cmul _ _
theorem pSlope_canon (p : List (Nat × Nat)) (z : Nat × Nat) (c : Int) : nf2 (pSlope p z c).1 = (pSlope p z c).1 := hLoop_canon _ _ _ _ _ _ _ (sg1_canon _ _)
theorem pVal_val (p : List (Nat × Nat)) (z : Nat × Nat) (c c' : Int) : (pVal p z c).1 = (pVal p z c').1 := hLoop_val _ _ _ _ _ _ _ _ _ _ _ fun _ _ => rfl
theorem hLoop_stick (z : Nat × Nat) (g : Nat → Nat × Nat) (gc : Int → Nat → Int) (hg : ∀ c k, c ≠ 0 → gc c k = c) (la : Nat) : ∀ (n : Nat) (o : Nat × Nat) (c : Int), c ≠ 0 → (hLoop z g gc la n (o, c)).2 = c
  | 0, _, _, _ => rfl
  | n + 1, o, c, h => by
    simp only [hLoop, hStep]
    rw [lk_ne h, hg _ _ h, lk_ne h]
    exact hLoop_stick z g gc hg la n _ c h
theorem pVal_stick (p : List (Nat × Nat)) (z : Nat × Nat) {c : Int} (h : c ≠ 0) : (pVal p z c).2 = c := hLoop_stick _ _ _ (fun _ _ _ => rfl) _ _ _ _ h
theorem pSlope_stick (p : List (Nat × Nat)) (z : Nat × Nat) {c : Int} (h : c ≠ 0) : (pSlope p z c).2 = c := by
  unfold pSlope hRun
  dsimp only
  rw [lk_ne h]
  exact hLoop_stick _ _ _ (fun _ _ h => lk_ne h _) _ _ _ _ h
theorem hLoop_cd (z : Nat × Nat) (g : Nat → Nat × Nat) (la : Nat) : ∀ (n : Nat) (o : Nat × Nat) (b : Bool), ∃ b', (hLoop z g (fun c _ => c) la n (o, cd b)).2 = cd b' ∧ (b = false → b' = false)
  | 0, o, b => ⟨b, rfl, id⟩
  | n + 1, o, b => by
    simp only [hLoop, hStep, lk_cd]
    obtain ⟨b', h1, h2⟩ := hLoop_cd z g la n (cadd (cmul o z) (g (la + n))) (b && cfin (cmul o z) && cfin (cadd (cmul o z) (g (la + n))))
    exact ⟨b', h1, fun h => h2 (by simp [h])⟩
/-- Are all of a way's numbers finite? -/
def allF (g : Nat → Nat × Nat) (la : Nat) : Nat → Bool
  | 0 => true
  | n + 1 => allF g la n && cfin (g (la + n))
theorem hLoop_two (z : Nat × Nat) (g g' : Nat → Nat × Nat) (la la' : Nat) : ∀ (n : Nat) (o : Nat × Nat) (b x b' : Bool), (∀ k, k < n → g (la + k) = g' (la' + k)) → (hLoop z g' (fun c _ => c) la' n (o, cd b)).2 = cd b' →
    (hLoop z g (fun c k => lk c (g k)) la n (o, cd (b && x))).2 = cd (b' && x && allF g la n)
  | 0, o, b, x, b', _, h => by
    have : b = b' := cd_inj h
    subst this
    simp [hLoop, allF]
  | n + 1, o, b, x, b', hk, h => by
    simp only [hLoop, hStep, lk_cd] at h ⊢
    rw [hk n (by omega)]
    have e : (b && x && cfin (cmul o z) && cfin (g' (la' + n)) && cfin (cadd (cmul o z) (g' (la' + n)))) = ((b && cfin (cmul o z) && cfin (cadd (cmul o z) (g' (la' + n)))) && (x && cfin (g' (la' + n)))) := by
      cases b <;> cases x <;> cases cfin (cmul o z) <;> cases cfin (g' (la' + n)) <;> simp
    rw [e, hLoop_two z g g' la la' n _ _ _ _ (fun k h => hk k (by omega)) h, allF, hk n (by omega)]
    cases b' <;> cases x <;> cases cfin (g' (la' + n)) <;> simp
/-- A slope is the value of the derived list. -/
theorem slope_of {p d : List (Nat × Nat)} (h2 : 2 ≤ p.length) (hd : d.length = p.length - 1) (hk : ∀ k, k < d.length → pg d k = sg1 p (k + 1)) (z : Nat × Nat) :
    (pSlope p z 0).1 = (pVal d z 0).1 ∧ (pSlope p z 0).2 = cd (decide ((pVal d z 0).2 = 0) && allF (pg d) 0 d.length) := by
  have e1 : d.length - 1 = p.length - 2 := by omega
  have e2 : p.length - 1 - 1 = p.length - 2 := by omega
  have e3 : sg1 p (p.length - 1) = pg d (p.length - 2) := by rw [hk _ (by omega)]; congr 1; omega
  have hg : ∀ k, k < p.length - 2 → sg1 p (1 + k) = pg d (0 + k) := fun k h => by rw [Nat.zero_add, hk k (by omega), Nat.add_comm]
  unfold pSlope pVal hRun
  rw [e1, e2, Nat.sub_zero]
  dsimp only
  rw [e3]
  refine ⟨hLoop_val _ _ _ _ _ _ _ _ _ _ _ hg, ?_⟩
  obtain ⟨b', hb, _⟩ := hLoop_cd z (pg d) 0 (p.length - 2) (pg d (p.length - 2)) true
  have h0 : (cd true : Int) = 0 := rfl
  rw [h0] at hb
  have h := hLoop_two z (sg1 p) (pg d) 1 0 (p.length - 2) (pg d (p.length - 2)) true (cfin (pg d (p.length - 2))) b' hg (by rw [h0]; exact hb)
  rw [hb]
  have e4 : lk 0 (pg d (p.length - 2)) = cd (true && cfin (pg d (p.length - 2))) := lk_cd true _
  rw [e4, h]
  have e5 : ∀ n, n ≤ p.length - 2 → allF (sg1 p) 1 n = allF (pg d) 0 n := by
    intro n
    induction n with
    | zero => intro _; rfl
    | succ n ih => intro h; simp only [allF]; rw [ih (by omega), hg n (by omega)]
  have e6 : d.length = p.length - 2 + 1 := by omega
  rw [e5 _ (Nat.le_refl _), e6]
  simp only [allF, Nat.zero_add]
  have e7 : decide (cd b' = 0) = b' := by cases b' <;> rfl
  rw [e7]
  cases b' <;> cases cfin (pg d (p.length - 2)) <;> cases allF (pg d) 0 (p.length - 2) <;> rfl

/-! quotients -/
theorem byC_ne {c : Int} (h : c ≠ 0) (a b : Nat × Nat) : byC c a b = c := by simp [byC, h]
theorem byV_ok {a b : Nat × Nat} {c : Int} (h : byC c a b = 0) : c = 0 ∧ ceq b (0, 0) = false ∧ byV c a b = cdiv a b ∧ cfin (cdiv a b) = true := by
  by_cases hc : c = 0
  · subst hc
    cases hb : ceq b (0, 0) with
    | true => simp [byC, hb] at h
    | false =>
      simp [byC, hb] at h
      exact ⟨rfl, rfl, by simp [byV, hb], (lk_zero h).2⟩
  · rw [byC_ne hc] at h; exact absurd h hc
theorem byC_nf (c : Int) (a b : Nat × Nat) : byC c (nf2 a) (nf2 b) = byC c a b := by simp only [byC, ceq_l, cdiv_l, cdiv_r]
theorem byV_nf (c : Int) (a b : Nat × Nat) : nf2 (byV c (nf2 a) (nf2 b)) = nf2 (byV c a b) := by
  unfold byV
  rw [ceq_l, cdiv_l, cdiv_r]
  cases decide (c = 0) && !ceq b (0, 0) <;> simp [nf2_nf2]

/-! corrections -/
abbrev cone : Nat × Nat := (floatOfInt .f64 1, 0)
def wStep (x : Nat × Nat) (s : (Nat × Nat) × Int) (w : Nat × Nat) : (Nat × Nat) × Int := (cmul s.1 (csub x w), lk (lk s.2 (csub x w)) (cmul s.1 (csub x w)))
def eStep (x : Nat × Nat) (s : (Nat × Nat) × Int) (w : Nat × Nat) : (Nat × Nat) × Int :=
  (cadd s.1 (byV (lk s.2 (csub x w)) cone (csub x w)), lk (byC (lk s.2 (csub x w)) cone (csub x w)) (cadd s.1 (byV (lk s.2 (csub x w)) cone (csub x w))))
/-- All but one of a list, one after the other. -/
def jFold (f : (Nat × Nat) × Int → Nat × Nat → (Nat × Nat) × Int) (i : Nat) : Nat → List (Nat × Nat) → (Nat × Nat) × Int → (Nat × Nat) × Int
  | _, [], s => s
  | j, w :: r, s => jFold f i (j + 1) r (if j = i then s else f s w)
theorem jFold_stick {f : (Nat × Nat) × Int → Nat × Nat → (Nat × Nat) × Int} (hf : ∀ s w, s.2 ≠ 0 → (f s w).2 = s.2) (i : Nat) : ∀ (l : List (Nat × Nat)) (j : Nat) (s : (Nat × Nat) × Int), s.2 ≠ 0 → (jFold f i j l s).2 = s.2
  | [], _, _, _ => rfl
  | w :: r, j, s, h => by
    simp only [jFold]
    by_cases hj : j = i
    · rw [if_pos hj]; exact jFold_stick hf i r _ s h
    · rw [if_neg hj, jFold_stick hf i r _ _ (by rw [hf s w h]; exact h), hf s w h]
theorem wStep_stick (x : Nat × Nat) (s : (Nat × Nat) × Int) (w : Nat × Nat) (h : s.2 ≠ 0) : (wStep x s w).2 = s.2 := by simp only [wStep]; rw [lk_ne h, lk_ne h]
theorem eStep_stick (x : Nat × Nat) (s : (Nat × Nat) × Int) (w : Nat × Nat) (h : s.2 ≠ 0) : (eStep x s w).2 = s.2 := by simp only [eStep]; rw [lk_ne h, byC_ne h, lk_ne h]
def lget (l : List (Nat × Nat)) (i : Nat) : Nat × Nat := l.getD i (0, 0)
/-- The correction of Weierstrass, and its code. -/
def corrW (p l : List (Nat × Nat)) (i : Nat) (c : Int) : (Nat × Nat) × Int :=
  let v := pVal p (lget l i) c
  let s := jFold (wStep (lget l i)) i 0 l (pg p (p.length - 1), v.2)
  (byV s.2 v.1 s.1, byC s.2 v.1 s.1)
/-- The correction of Ehrlich, and its code. -/
def corrE (p l : List (Nat × Nat)) (i : Nat) (c : Int) : (Nat × Nat) × Int :=
  let v := pVal p (lget l i) c
  if ceq v.1 (0, 0) = true then ((0, 0), v.2) else
  let s := pSlope p (lget l i) v.2
  let q := nf2 (byV s.2 v.1 s.1)
  let t := jFold (eStep (lget l i)) i 0 l ((0, 0), byC s.2 v.1 s.1)
  let c5 := lk t.2 (cmul q t.1)
  let c6 := lk c5 (csub cone (cmul q t.1))
  (byV c6 q (csub cone (cmul q t.1)), byC c6 q (csub cone (cmul q t.1)))
def corr (p l : List (Nat × Nat)) (kind : Int) (i : Nat) (c : Int) : (Nat × Nat) × Int := if kind = 0 then corrW p l i c else corrE p l i c
end Go.Proofs.Ytbclejclkicgnaa.K
end
