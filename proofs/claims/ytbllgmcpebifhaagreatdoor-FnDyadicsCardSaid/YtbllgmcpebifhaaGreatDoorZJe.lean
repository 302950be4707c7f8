/- The reference's whole numbers: bits, length, twos. -/
import Derived.Test.YtbllgmcpebifhaaGreatDoorZJc
import Derived.Laws.BitsLemmas
namespace Go.Proofs.YtbllgmcpebifhaaGreatDoor.K
open Go Go.RowKit Go.Lib
set_option linter.all false
set_option maxRecDepth 4000
set_option maxHeartbeats 1000000

theorem i64_and1 (n : Int) : bits .and .i64 n 1 = n % 2 := by
  have h1 : (BitVec.ofInt 64 1).toNat = 2 ^ 1 - 1 := by decide
  have key : (BitVec.ofInt 64 n &&& BitVec.ofInt 64 1).toNat = (n % ((2 ^ 64 : Nat) : Int)).toNat % 2 ^ 1 := by
    rw [BitVec.toNat_and, BitVec.toNat_ofInt, h1, Nat.and_two_pow_sub_one_eq_mod]
  show IntKind.i64.wrap ((BitVec.ofInt 64 n &&& BitVec.ofInt 64 1).toNat : Nat) = n % 2
  rw [key, IntKind.wrap_i64]
  omega
theorem bit_at (l : List Int) (h : InR 16777216 l) (q s : Nat) (hs : s < 24) : vl 16777216 l / 2 ^ (24 * q + s) % 2 = (l.getD q 0).toNat / 2 ^ s % 2 := by
  have e : vl 16777216 l / 2 ^ (24 * q + s) = vl 16777216 (l.drop q) / 2 ^ s := by
    rw [vl_drop_div 16777216 (by omega) l h q, show (16777216 : Nat) = 2 ^ 24 by decide, ← Nat.pow_mul, Nat.pow_add, Nat.div_div_eq_div_mul]
  rw [e]
  obtain ⟨W, hW⟩ := vl_head 16777216 (l.drop q)
  have hh : (l.drop q).headD 0 = l.getD q 0 := by
    rw [List.headD_eq_head?_getD, List.head?_drop, List.getD_eq_getElem?_getD]
  rw [hh] at hW
  have h24 : (16777216 : Nat) = 2 ^ s * (2 * 2 ^ (23 - s)) := by
    rw [← Nat.pow_succ', ← Nat.pow_add, show s + (23 - s).succ = 24 by omega]
  rw [hW, h24, Nat.mul_assoc, Nat.add_mul_div_left _ _ (Nat.pow_pos (by omega)), Nat.mul_assoc, Nat.add_mul_mod_self_left]

theorem shr_nat (y : Int) (hy : 0 ≤ y) (k s b : Nat) (hs : s ≤ b) (q : Int) (hq : q.toNat = s) : y.fdiv (2 ^ (min q.toNat b)) = ((y.toNat / 2 ^ s : Nat) : Int) := by
  rw [hq, Nat.min_eq_left hs]
  obtain ⟨a, rfl⟩ := Int.eq_ofNat_of_zero_le hy
  rw [Int.fdiv_eq_ediv_of_nonneg _ (Int.le_of_lt (Int.pow_pos (by decide)))]
  simp
theorem l02Bit_spec (sg : Int) (u : Value) (x k : Nat) (hk : k ≤ 100000) : Spec Tryz.prog 240 [vWhole sg u, .int .i64 (k : Int)] [] [fList 1 (rInt .i64) u (limbs x)] (Gives (.int .i64 ((x / 2 ^ k % 2 : Nat) : Int))) := by
  refine enter Tryz.func240 Tryz.ntmps240 rfl (by kernel_rfl) zCon rfl fun G => ?_
  refine c_isList (v := u) zMem fun hsu => ?_
  have hr := limbs_range x
  have hv := limbs_val x
  revert hr hv
  generalize limbs x = l
  intro hr hv
  have hb := bit_at l hr (k / 24) (k % 24) (Nat.mod_lt _ (by omega))
  rw [hv, Nat.div_add_mod] at hb
  rw [hb]
  all_goals ((try refine zR ?_) <;> (repeat' (with_reducible first | refine And.intro ?_ ?_ | intro _)))
  · rw [getD_ge (by omega)]
    refine e_gives rfl zRes ?_
    simp [retVal]
  · have hlt : k / 24 < l.length := by omega
    have hy := hr _ (List.getElem_mem hlt)
    rw [getD_lt hlt]
    revert hy
    generalize l[k / 24] = y
    intro hy
    refine l_shr rfl rfl rfl rfl (by omega) (shr_nat y hy.1 k (k % 24) 64 (by omega) _ (by omega)) ?_
    refine l_bits (.inl rfl) rfl rfl rfl rfl (i64_and1 _) ?_
    all_goals ((try refine zR ?_) <;> (repeat' (with_reducible first | refine And.intro ?_ ?_ | intro _)))
    refine e_gives rfl zRes ?_
    simp [retVal]

/-- How many of the last bits are 0. -/
def twos (x : Nat) : Nat := if h : x = 0 then 0 else if x % 2 = 1 then 0 else twos (x / 2) + 1
  termination_by x
  decreasing_by omega
theorem twos_lt {x k : Nat} (hx : x ≠ 0) (hk : k < twos x) : x / 2 ^ k % 2 = 0 := by
  induction k generalizing x with
  | zero =>
    rw [twos] at hk
    simp only [hx, dite_false] at hk
    by_cases h : x % 2 = 1
    · rw [if_pos h] at hk; omega
    · rw [Nat.pow_zero, Nat.div_one]; omega
  | succ k ih =>
    rw [twos] at hk
    simp only [hx, dite_false] at hk
    by_cases h : x % 2 = 1
    · rw [if_pos h] at hk; omega
    · rw [if_neg h] at hk
      rw [Nat.pow_succ', ← Nat.div_div_eq_div_mul]
      exact ih (by omega) (by omega)
theorem twos_at {x : Nat} (hx : x ≠ 0) : x / 2 ^ twos x % 2 = 1 ∧ x % 2 ^ twos x = 0 := by
  induction x using Nat.strongRecOn with
  | _ x ih =>
    rw [twos]
    simp only [hx, dite_false]
    by_cases h : x % 2 = 1
    · rw [if_pos h, Nat.pow_zero, Nat.div_one]; exact ⟨h, Nat.mod_one _⟩
    · rw [if_neg h]
      obtain ⟨h1, h2⟩ := ih (x / 2) (by omega) (by omega)
      rw [Nat.pow_succ', ← Nat.div_div_eq_div_mul]
      refine ⟨h1, ?_⟩
      rw [Nat.mod_mul, h2]; omega
theorem twos_le {x : Nat} (hx : x ≠ 0) : 2 ^ twos x ≤ x := by
  obtain ⟨h1, h2⟩ := twos_at hx
  rcases Nat.lt_or_ge x (2 ^ twos x) with h | h
  · rw [Nat.div_eq_of_lt h] at h1; simp at h1
  · exact h
theorem l02Twos_spec (sg : Int) (u : Value) (x : Nat) (hx : x ≠ 0) (hb : twos x ≤ 90000) (hl : (limbs x).length ≤ 4000) : Spec Tryz.prog 186 [vWhole sg u] [] [fList 1 (rInt .i64) u (limbs x)] (Gives (.int .i64 (twos x : Int))) := by
  refine enter Tryz.func186 Tryz.ntmps186 rfl (by kernel_rfl) zCon rfl fun G => ?_
  refine c_isList (v := u) zMem fun hsu => ?_
  all_goals ((try refine zR ?_) <;> (repeat' (with_reducible first | refine And.intro ?_ ?_ | intro _)))
  rename_i b
  refine c_while (ι := { k : Nat // k ≤ twos x }) (κ := Unit) (fun k => [(3, .int .i64 (k.1 : Int)), (1, .pointer (some ⟨b, 0, none⟩))]) (fun _ => [.box b [.int .i64 sg, u] 46]) (fun _ => [fList 1 (rInt .i64) u (limbs x)]) (fun k => twos x - k.1)
    (fun _ => [(3, .int .i64 (twos x : Int))]) (fun _ => []) (fun _ => []) ⟨0, Nat.zero_le _⟩ (fun _ _ s => s.start zSub zRfl zFsub) ?_ ?_
  · rintro ⟨k, hk⟩
    dsimp only
    have hbit := l02Bit_spec sg u x k (by omega)
    by_cases hlt : k < twos x
    · rw [twos_lt hx hlt] at hbit
      all_goals (((try refine zR ?_) <;> (repeat' (with_reducible first | refine And.intro ?_ ?_ | intro _))) <;> (repeat' ((first | ((with_reducible apply l_callP); exact rfl; exact zEvs; exact rfl; (with_reducible apply hbit); (case hF => exact zFsub); (try any_goals (refine propId ?_; omega)))) <;> ((try refine zR ?_) <;> (repeat' (with_reducible first | refine And.intro ?_ ?_ | intro _))))))
      all_goals first | (exfalso; simp_all; done) | skip
      exact e_again ⟨k + 1, hlt⟩ (by dsimp only; omega) zSub rfl (fun _ h => h)
    · have : k = twos x := by omega
      subst this
      rw [(twos_at hx).1] at hbit
      all_goals (((try refine zR ?_) <;> (repeat' (with_reducible first | refine And.intro ?_ ?_ | intro _))) <;> (repeat' ((first | ((with_reducible apply l_callP); exact rfl; exact zEvs; exact rfl; (with_reducible apply hbit); (case hF => exact zFsub); (try any_goals (refine propId ?_; omega)))) <;> ((try refine zR ?_) <;> (repeat' (with_reducible first | refine And.intro ?_ ?_ | intro _))))))
      all_goals first | (exfalso; simp_all; done) | skip
      refine ends_take (L' := []) zTake ?_
      exact e_out () zSub rfl zFsub
  · intro _
    all_goals ((try refine zR ?_) <;> (repeat' (with_reducible first | refine And.intro ?_ ?_ | intro _)))
    (refine e_gives rfl zRes ?_; first | rfl | (simp [retVal, *]; done) | (simp_all [retVal]; done) | (simp only [retVal]))
end Go.Proofs.YtbllgmcpebifhaaGreatDoor.K
