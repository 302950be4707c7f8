/- Floats of any kind: sizes; the reference's and the program's first functions at them. -/
import Derived.Test.YtbllgmcpebifhaaGreatDoorZQb
import Derived.Laws.BitsAllLaws
namespace Go.Proofs.YtbllgmcpebifhaaGreatDoor.K
open Go Go.RowKit Ieee
set_option linter.all false
set_option maxRecDepth 4000
set_option maxHeartbeats 1000000
set_option exponentiation.threshold 8000

theorem FW.nf {e : Nat} (u : FW e) : nf u.1 = e := u.2.1
theorem nf_mod (x : Nat) : nf (x % 18446744073709551616) = nf x := by
  unfold K.nf
  rw [nanB_mod, Nat.mod_mod]
theorem nf_cong {x y : Nat} (h : x % 18446744073709551616 = y % 18446744073709551616) : nf x = nf y := by rw [← nf_mod x, h, nf_mod]
/-- The size of a float. -/
def fabs (x : Nat) : Nat := nf (absB x)
theorem absB_eq (x : Nat) : absB x = x % 9223372036854775808 := rfl
theorem read_neg' (x : Nat) : (double.read x).neg = (x / 9223372036854775808 % 2 == 1) := by
  unfold Format.read
  rw [sw]
  dsimp only
  repeat' split
  all_goals rfl
theorem read_zero : double.read 0 = .number false 0 (-1074) := by decide +kernel
theorem order0 (x : Nat) : double.order x 0 = match double.read x with
    | .nan .. => none
    | .infinity s => some (if s then .lt else .gt)
    | .number s m _ => some (if m = 0 then .eq else if s then .lt else .gt) := by
  unfold Format.order
  rw [read_zero]
  cases double.read x with
  | nan s f => rfl
  | infinity s => rfl
  | number s m i =>
    show some (compare (signed s m _) (signed false 0 _)) = _
    generalize (i - min i (-1074)).toNat = k
    generalize (-1074 - min i (-1074) : Int).toNat = j
    have e0 : signed false 0 j = 0 := by simp [signed]
    have hp : 0 < 2 ^ k := Nat.pow_pos (by omega)
    rw [e0]
    dsimp only
    congr 1
    by_cases h0 : m = 0
    · subst h0
      have : signed s 0 k = 0 := by cases s <;> simp [signed]
      rw [this, if_pos rfl]; rfl
    · rw [if_neg h0]
      have h1 : 0 < m * 2 ^ k := Nat.mul_pos (by omega) hp
      cases s with
      | true =>
        rw [if_pos rfl]
        refine (cmp_eq _ _).2.1.2 ?_
        show -((m <<< k : Nat) : Int) < 0
        rw [Nat.shiftLeft_eq]
        generalize m * 2 ^ k = z at h1
        omega
      | false =>
        rw [if_neg (by simp)]
        refine (cmp_eq _ _).2.2.2 ?_
        show 0 < ((m <<< k : Nat) : Int)
        rw [Nat.shiftLeft_eq]
        generalize m * 2 ^ k = z at h1
        omega
theorem xor_top (x : Nat) (h : x / 9223372036854775808 % 2 = 1) : (x ^^^ 9223372036854775808) % 18446744073709551616 = x % 9223372036854775808 := by
  have e : (9223372036854775808 : Nat) = 2 ^ 63 := by decide
  have h1 : (x ^^^ 9223372036854775808) % 9223372036854775808 = x % 9223372036854775808 := by
    rw [e, Nat.xor_mod_two_pow, Nat.mod_self, Nat.xor_zero]
  have h2 : (x ^^^ 9223372036854775808) / 9223372036854775808 % 2 = 0 := by
    rw [e, Nat.xor_div_two_pow, Nat.div_self (Nat.pow_pos (by omega))]
    have h3 := Nat.xor_mod_two_pow (a := x / 2 ^ 63) (b := 1) (n := 1)
    rw [show (2 : Nat) ^ 1 = 2 by decide] at h3
    rw [h3, ← e, h]; decide
  omega
theorem abs_lss {x : Nat} (h : fcmp .lss x 0 = true) : fneg x = fabs x := by
  have hs : x / 9223372036854775808 % 2 = 1 := by
    have h1 := read_neg' x
    simp only [fcmp, order0] at h
    have h2 : (double.read x).neg = true := by
      cases hr : double.read x with
      | nan s f => rw [hr] at h; simp at h
      | infinity s => rw [hr] at h; cases s <;> simp_all [Datum.neg]
      | number s m i =>
        rw [hr] at h
        cases s with
        | true => rfl
        | false => by_cases h0 : m = 0 <;> simp [h0] at h
    rw [h2] at h1
    simpa using h1.symm
  unfold fneg fabs
  refine nf_cong ?_
  have e : Op.negFloat .f64 x = x ^^^ 9223372036854775808 := rfl
  rw [e, absB_eq, xor_top x hs]; omega
theorem abs_eql {x : Nat} (h : fcmp .eql x 0 = true) : fabs x = 0 := by
  simp only [fcmp, order0] at h
  have h1 : x % 9223372036854775808 = 0 := by
    cases hr : double.read x with
    | nan s f => rw [hr] at h; simp at h
    | infinity s => rw [hr] at h; cases s <;> simp at h
    | number s m i =>
      rw [hr] at h
      have hm : m = 0 := by
        by_cases h0 : m = 0
        · exact h0
        · exfalso; cases s <;> simp [h0] at h
      subst hm
      unfold Format.read at hr
      rw [sw, bn] at hr
      dsimp only at hr
      split at hr
      · injection hr with _ h2 _
      · split at hr
        · injection hr with _ h2 _; omega
        · split at hr <;> cases hr
  unfold fabs
  rw [absB_eq, h1]
  decide +kernel
theorem nan_abs (x : Nat) : nanB (absB x) = nanB x := by
  have e1 : x % 9223372036854775808 % 9223372036854775808 = x % 9223372036854775808 := Nat.mod_mod _ _
  unfold nanB Format.read
  rw [sw, absB_eq, e1]
  dsimp only
  repeat' split
  all_goals first | rfl | omega
theorem abs_else {x : Nat} (h1 : fcmp .lss x 0 = false) (h2 : fcmp .eql x 0 = false) : nf x = fabs x := by
  unfold fabs
  cases hn : nanB x with
  | true => rw [nf_nan hn, nf_nan (by rw [nan_abs, hn])]
  | false =>
    refine nf_cong ?_
    have h3 := read_neg' x
    simp only [fcmp, order0] at h1 h2
    have hs : (double.read x).neg = false := by
      cases hr : double.read x with
      | nan s f => unfold nanB at hn; rw [hr] at hn; cases hn
      | infinity s => rw [hr] at h1; cases s with
        | true => simp at h1
        | false => rfl
      | number s m i =>
        rw [hr] at h1 h2
        cases s with
        | false => rfl
        | true => by_cases h0 : m = 0 <;> simp [h0] at h1 h2
    rw [hs] at h3
    have h4 : ¬ x / 9223372036854775808 % 2 = 1 := by simpa using h3.symm
    rw [absB_eq]
    omega
theorem fabs_nf (x : Nat) : fabs (nf x) = fabs x := by
  unfold fabs
  cases hn : nanB x with
  | true => rw [nf_nan (by rw [nan_abs, nanB_nf, hn]), nf_nan (by rw [nan_abs, hn])]
  | false => rw [nf_num hn, absB_eq, absB_eq]; exact congrArg nf (by omega)
theorem nf_fabs (x : Nat) : nf (fabs x) = fabs x := nf_nf _
theorem abs_bits (x : Nat) : bits .andNot .u64 (x : Int) 9223372036854775808 = ((absB x : Nat) : Int) := by
  have e : BitVec.ofInt 64 (x : Int) = BitVec.ofInt 64 ((x % 18446744073709551616 : Nat) : Int) := by
    apply BitVec.eq_of_toNat_eq
    simp
    omega
  have h := u64_andNot_nat (x % 18446744073709551616) 9223372036854775808 (Nat.mod_lt _ (by decide)) (by decide)
  have h2 : bits .andNot .u64 (x : Int) 9223372036854775808 = bits .andNot .u64 ((x % 18446744073709551616 : Nat) : Int) 9223372036854775808 := by
    show IntKind.u64.wrap ((BitVec.ofInt 64 (x : Int) &&& ~~~BitVec.ofInt 64 9223372036854775808).toNat : Int) = IntKind.u64.wrap ((BitVec.ofInt 64 ((x % 18446744073709551616 : Nat) : Int) &&& ~~~BitVec.ofInt 64 9223372036854775808).toNat : Int)
    rw [e]
  rw [h2]
  refine h.trans ?_
  congr 1
  have e63 : 18446744073709551615 - 9223372036854775808 = 2 ^ 63 - 1 := by decide
  rw [e63, Nat.and_two_pow_sub_one_eq_mod, absB_eq]
  omega

/-! finite -/
def ffin (x : Nat) : Bool := fcmp .eql (fop .sub x x) 0
def cfin (z : Nat × Nat) : Bool := ffin z.1 && ffin z.2
def csize (z : Nat × Nat) : Nat := fop .add (fabs z.1) (fabs z.2)
theorem ffin_nf (x : Nat) : ffin (nf x) = ffin x := by unfold ffin; rw [fop_l, fop_r]
theorem cfin_nf (z : Nat × Nat) : cfin (nf2 z) = cfin z := by simp only [cfin, nf2, ffin_nf]
theorem FW.fin {e : Nat} (u : FW e) : ffin u.1 = ffin e := by rw [← ffin_nf, u.2.1]
theorem CW.eq {e : Nat × Nat} (u : CW e) : nf2 u.1 = e := Prod.ext u.2.1.1 u.2.1.2
theorem CW.fin {e : Nat × Nat} (u : CW e) : cfin u.1 = cfin e := by rw [← cfin_nf, u.eq]
theorem csize_nf (z : Nat × Nat) : csize (nf2 z) = csize z := by simp only [csize, nf2, fabs_nf]
/-! the reference's functions -/
theorem l01Real_spec (x : Nat) : Spec Tryz.prog 88 [.float .f64 x] [] [] (Gives (.bool (ffin x))) := by
  refine enter Tryz.func88 Tryz.ntmps88 rfl (by kernel_rfl) zCon rfl fun G => ?_
  all_goals ((try refine zR3 ?_) <;> (repeat' (with_reducible first | refine And.intro ?_ ?_ | intro _)))
  refine e_gives rfl zRes ?_
  simp [retVal, ffin, FW.cl]
theorem l01Finite_spec (a b : Nat) : Spec Tryz.prog 75 [.complex .f64 a b] [] [] (Gives (.bool (cfin (a, b)))) := by
  refine enter Tryz.func75 Tryz.ntmps75 rfl (by kernel_rfl) zCon rfl fun G => ?_
  have h1 := l01Real_spec a
  have h2 := l01Real_spec b
  all_goals (((try refine zR3 ?_) <;> (repeat' (with_reducible first | refine And.intro ?_ ?_ | intro _))) <;> (repeat' ((first | ((with_reducible apply l_callP); exact rfl; exact zEvs; exact rfl; (with_reducible apply h1); (case hF => exact zFsub); (try any_goals (refine propId ?_; omega))) | ((with_reducible apply l_callP); exact rfl; exact zEvs; exact rfl; (with_reducible apply h2); (case hF => exact zFsub); (try any_goals (refine propId ?_; omega)))) <;> ((try refine zR3 ?_) <;> (repeat' (with_reducible first | refine And.intro ?_ ?_ | intro _))))))
  all_goals (refine e_gives rfl zRes ?_; simp [retVal, cfin, *])
theorem l01Abs_spec (x : Nat) (hx : x < 18446744073709551616) : Spec Tryz.prog 164 [.float .f64 x] [] [] (PM (fun u : FW (fabs x) => .float .f64 u.1) fun _ => []) := by
  refine enter Tryz.func164 Tryz.ntmps164 rfl (by kernel_rfl) zCon rfl fun G => ?_
  all_goals ((try refine zR3 ?_) <;> (repeat' (with_reducible first | refine And.intro ?_ ?_ | intro _)))
  · refine e_pm ⟨_, ?_, FW.lt _⟩ rfl zRes .nil rfl
    rw [FW.nf, abs_lss (by assumption)]
  · refine e_pm ⟨_, ?_, ?_⟩ rfl zRes .nil rfl
    rotate_left
    · decide
    rw [abs_eql (by assumption)]
    decide +kernel
  · exact e_pm ⟨_, abs_else (by assumption) (by assumption), hx⟩ rfl zRes .nil rfl
theorem l01Size_spec (a b : Nat) (ha : a < 18446744073709551616) (hb : b < 18446744073709551616) : Spec Tryz.prog 89 [.complex .f64 a b] [] [] (PM (fun u : FW (csize (a, b)) => .float .f64 u.1) fun _ => []) := by
  refine enter Tryz.func89 Tryz.ntmps89 rfl (by kernel_rfl) zCon rfl fun G => ?_
  all_goals (((try refine zR3 ?_) <;> (repeat' (with_reducible first | refine And.intro ?_ ?_ | intro _))) <;> (repeat' ((first | ((with_reducible apply l_callM); exact rfl; exact rfl; exact zEvs; exact rfl; (apply l01Abs_spec); (case hL => exact zTake); (case hF => exact zFsub); (try any_goals (refine propId ?_; first | omega | exact zLt)); (with_reducible intro _))) <;> ((try refine zR3 ?_) <;> (repeat' (with_reducible first | refine And.intro ?_ ?_ | intro _))))))
  refine e_pm ⟨_, ?_, FW.lt _⟩ rfl zRes .nil rfl
  simp [csize, FW.nf, FW.fl, FW.fr]
end Go.Proofs.YtbllgmcpebifhaaGreatDoor.K
