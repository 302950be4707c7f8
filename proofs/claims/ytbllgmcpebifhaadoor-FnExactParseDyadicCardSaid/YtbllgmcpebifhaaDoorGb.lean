/- Large numbers with their sign: shifts up, sums of digits. -/
import Derived.Test.YtbllgmcpebifhaaDoorGa
namespace Go.Proofs.YtbllgmcpebifhaaDoor.K
open Go Go.RowKit
set_option linter.all false
set_option maxRecDepth 4000
set_option maxHeartbeats 1000000
set_option exponentiation.threshold 8000

theorem Lsh_spec (z x : Nat) (v : Int) (n0 : Bool) (m0 mx : Value) (R : List Own) (q s : Nat) (hs : s < 32) (hq : q ≤ 1000) (hx : oInt x v mx ∈ oBig z n0 m0 :: R) (hv : v.natAbs < 4294967296 ^ 1000) :
    Spec Tryd.prog 46 [ptr z, ptr x, .int .u64 ((32 * q + s : Nat) : Int)] (oBig z n0 m0 :: R) [fDig mx v.natAbs] (PInt z (v * 2 ^ (32 * q + s)) R) := by
  refine enter Tryd.func46 Tryd.ntmps46 rfl (by kernel_rfl) zCon rfl fun G => ?_
  refine c_dig zMem fun d hd => ?_
  refine c_isList (v := mx) zMem fun hsl => ?_
  have hdl := hd.len hv
  have hS : (2 : Nat) ^ s < 4294967296 := Nat.pow_lt_pow_right (by omega) hs
  have hS0 : 0 < (2 : Nat) ^ s := Nat.pow_pos (by omega)
  have h1 : ((32 * q + s : Nat) : Int).tdiv 32 = (q : Int) := by rw [Int.tdiv_eq_ediv_of_nonneg (by omega)]; omega
  have h2 : ((32 * q + s : Nat) : Int).tmod 32 = (s : Int) := by rw [Int.tmod_eq_emod_of_nonneg (by omega)]; omega
  all_goals ((try refine zR ?_) <;> (repeat' (with_reducible first | refine And.intro ?_ ?_ | intro _)))
  rename_i r _
  refine c_while (ι := { p : Nat × List Int × Int // p.1 ≤ d.length ∧ p.2.1.length = p.1 ∧ InR 4294967296 p.2.1 ∧ (0 ≤ p.2.2 ∧ p.2.2 < ((2 ^ s : Nat) : Int)) ∧ vl 4294967296 p.2.1 + 4294967296 ^ p.1 * p.2.2.toNat = 2 ^ s * vl 4294967296 (d.take p.1) }) (κ := { p : List Int // InR 4294967296 p ∧ vl 4294967296 p = v.natAbs * 2 ^ (32 * q + s) })
    (fun p => [(27, .int .i64 (p.1.1 : Int)), (26, .int .i64 (d.length : Int)), (25, mx), (7, r), (2, .int .u64 ((32 * q + s : Nat) : Int)), (1, ptr x), (0, ptr z)]) (fun p => .row r 80 1 (d.length + q + 1) ((List.replicate q 0 ++ (p.1.2.1 ++ p.1.2.2 :: List.replicate (d.length - p.1.1) 0)).map (Value.int .u32)) :: oBig z n0 m0 :: R) (fun _ => [fList 1 (rInt .u32) mx d]) (fun p => d.length - p.1.1)
    (fun _ => [(7, r), (1, ptr x), (0, ptr z)]) (fun p => .row r 80 1 (d.length + q + 1) (p.1.map (Value.int .u32)) :: oBig z n0 m0 :: R) (fun _ => []) ⟨(0, [], 0), by simp [vl, InR]; exact Int.pow_pos (by decide)⟩ (fun _ _ t => t.start zSub (by
      dsimp only
      rw [List.nil_append, Nat.sub_zero, ← List.replicate_succ, List.replicate_append_replicate]
      congr 4; omega) zFsub) ?_ ?_
  · rintro ⟨⟨i, P, c⟩, hi, hP, hR, hc, hval⟩
    dsimp only at hi hP hR hc hval ⊢
    have hlen : (List.replicate q 0 ++ (P ++ c :: List.replicate (d.length - i) 0)).length = d.length + q + 1 := by simp; omega
    by_cases hil : i < d.length
    · have hx := hd.1 _ (List.getElem_mem hil)
      obtain ⟨t, ht⟩ : ∃ t, t = d[i] * 2 ^ s := ⟨_, rfl⟩
      have ht' : t = ((d[i].toNat * 2 ^ s : Nat) : Int) := by rw [ht, Int.natCast_mul, Int.toNat_of_nonneg hx.1]; simp
      have htb : 0 ≤ t ∧ t < 4294967296 * ((2 ^ s : Nat) : Int) := by
        have h3 : d[i].toNat * 2 ^ s < 4294967296 * 2 ^ s := Nat.mul_lt_mul_of_pos_right (by omega) hS0
        rw [ht']
        revert h3
        generalize d[i].toNat * 2 ^ s = A
        generalize (2 : Nat) ^ s = S
        intro h3
        omega
      have hw : IntKind.u64.wrap (d[i] * 2 ^ s) = t := by rw [← ht]; exact w_u64 (by omega)
      have hget : (List.replicate q 0 ++ (P ++ c :: List.replicate (d.length - i) 0))[i + q]? = some c := by
        rw [List.getElem?_append_right (by simp), List.length_replicate, Nat.add_sub_cancel, ← hP]; exact row_get _ _ _
      have hm : t % 4294967296 % ((2 ^ s : Nat) : Int) = 0 := by
        have hdv : ((2 ^ s : Nat) : Int) ∣ 4294967296 := ⟨((2 ^ (32 - s) : Nat) : Int), by rw [← Int.natCast_mul, ← Nat.pow_add, show s + (32 - s) = 32 by omega]; rfl⟩
        rw [Int.emod_emod_of_dvd _ hdv, ht', Int.natCast_mul]
        exact Int.mul_emod_left _ _
      have ho : bits .or .u32 c (t % 4294967296) = c + t % 4294967296 := or_apart32 s (by rw [show (2 : Int) ^ s = ((2 ^ s : Nat) : Int) by simp]; exact hc) (by omega) (by omega) (by rw [show (2 : Int) ^ s = ((2 ^ s : Nat) : Int) by simp]; exact hm)
      have hcb : c + t % 4294967296 < 4294967296 := by
        have hdv : (4294967296 : Int) = ((2 ^ s : Nat) : Int) * ((2 ^ (32 - s) : Nat) : Int) := by rw [← Int.natCast_mul, ← Nat.pow_add, show s + (32 - s) = 32 by omega]; rfl
        have h3 := Int.mul_ediv_add_emod (t % 4294967296) ((2 ^ s : Nat) : Int)
        rw [hm, Int.add_zero] at h3
        have h4 : t % 4294967296 / ((2 ^ s : Nat) : Int) < ((2 ^ (32 - s) : Nat) : Int) := Int.ediv_lt_of_lt_mul (by omega) (by rw [Int.mul_comm, ← hdv]; omega)
        have h5 : ((2 ^ s : Nat) : Int) * (t % 4294967296 / ((2 ^ s : Nat) : Int) + 1) ≤ ((2 ^ s : Nat) : Int) * ((2 ^ (32 - s) : Nat) : Int) := Int.mul_le_mul_of_nonneg_left (by omega) (by omega)
        rw [Int.mul_add, Int.mul_one, h3, ← hdv] at h5
        omega
      have hdvt : t / 4294967296 < ((2 ^ s : Nat) : Int) := by omega
      all_goals ((try refine zR ?_) <;> (repeat' (with_reducible first | refine And.intro ?_ ?_ | intro _)))
      all_goals (first | (exfalso; omega) | skip)
      · refine e_again ⟨(i + 1, P ++ [c + t % 4294967296], t / 4294967296), by omega, by simp [hP], hR.snoc (by omega), by dsimp only; omega, ?_⟩ (by dsimp only; omega) zSub ?_ (fun _ h => h)
        · have h6 := lshS_step 4294967296 (2 ^ s) (4294967296 ^ i) (vl 4294967296 (d.take i)) (vl 4294967296 P) c.toNat d[i].toNat hval
          dsimp only
          rw [vl_snoc, hP, vl_take_succ _ _ _ hil, ← h6, Nat.pow_succ]
          have e1 : (c + t % 4294967296).toNat = c.toNat + d[i].toNat * 2 ^ s % 4294967296 := by omega
          have e2 : (t / 4294967296).toNat = d[i].toNat * 2 ^ s / 4294967296 := by omega
          rw [e1, e2]
        · dsimp only
          have e0 : d.length - i = (d.length - (i + 1)) + 1 := by omega
          congr 3
          rw [List.set_append_right _ _ (by simp), List.set_append_right _ _ (by simp; omega)]
          simp only [List.length_replicate]
          rw [show i + q - q = P.length by omega, show i + q + 1 - q = P.length + 1 by omega, row_set, e0, List.replicate_succ]
          have := row_set (P ++ [c + t % 4294967296]) 0 (t / 4294967296) (List.replicate (d.length - (i + 1)) 0)
          simp only [List.length_append, List.length_singleton, List.append_assoc, List.singleton_append] at this
          rw [this]; simp
    · all_goals ((try refine zR ?_) <;> (repeat' (with_reducible first | refine And.intro ?_ ?_ | intro _)))
      all_goals (first | (exfalso; omega) | skip)
      have hi' : i = d.length := by omega
      subst hi'
      refine e_out ⟨List.replicate q 0 ++ (P ++ [c]), ?_, ?_⟩ zSub (by simp) (fun _ h => by cases h)
      · intro y hy
        rcases List.mem_append.1 hy with h | h
        · rw [List.eq_of_mem_replicate h]; omega
        · exact hR.snoc (by omega) y h
      · rw [vl_append, vl_snoc, hP, hval, List.take_length, hd.2.2, vl_zeros _ _ (fun x hx => List.eq_of_mem_replicate hx), List.length_replicate, Nat.zero_add, Nat.pow_add, Nat.mul_comm (2 ^ s), ← Nat.mul_assoc, Nat.mul_comm (4294967296 ^ q), Nat.mul_assoc]
        congr 1
        rw [Nat.mul_comm, Nat.mul_comm (2 ^ (32 * q)), Nat.pow_mul]
  · rintro ⟨p, hp, hpv⟩
    dsimp only at hp hpv ⊢
    refine c_freezeInts .head rfl ?_
    all_goals ((try refine zR ?_) <;> (repeat' (with_reducible first | refine And.intro ?_ ?_ | intro _)))
    refine l_call rfl zEvs rfl (put_spec z n0 (decide (v < 0)) m0 r p hp) zTake zFsub ?_
    rintro _ L' F' ⟨mag', rfl, rfl, rfl⟩
    all_goals ((try refine zR ?_) <;> (repeat' (with_reducible first | refine And.intro ?_ ?_ | intro _)))
    rw [hpv, sv_mul, sv_abs_eq, show ((2 ^ (32 * q + s) : Nat) : Int) = 2 ^ (32 * q + s) by simp]
    exact e_res rfl zRes _ _ (fun _ h => h) (fun _ h => h.apart) (fsub_cons (.head _) fsub_nil) ⟨mag', rfl, rfl, rfl⟩
end Go.Proofs.YtbllgmcpebifhaaDoor.K
