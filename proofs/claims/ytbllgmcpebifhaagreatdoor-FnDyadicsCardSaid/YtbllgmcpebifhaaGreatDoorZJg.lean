/- The reference's whole number of an int64. -/
import Derived.Test.YtbllgmcpebifhaaGreatDoorZJf

section
namespace Go.Proofs.YtbllgmcpebifhaaGreatDoor.K
open Go Go.RowKit Go.Lib
set_option linter.all false
set_option maxRecDepth 4000
set_option maxHeartbeats 1000000

theorem of_step (o : List Int) (m : Nat) (x : Nat) (h : vl 16777216 o + 16777216 ^ o.length * m = x) : vl 16777216 (o ++ [((m % 16777216 : Nat) : Int)]) + 16777216 ^ (o ++ [((m % 16777216 : Nat) : Int)]).length * (m / 16777216) = x := by
  rw [vl_append, List.length_append, List.length_singleton, Nat.pow_succ, Nat.mul_assoc]
  simp only [vl, Nat.mul_zero, Nat.add_zero, Int.toNat_natCast]
  have h1 := Nat.div_add_mod m 16777216
  have h2 : 16777216 ^ o.length * (m % 16777216) + 16777216 ^ o.length * (16777216 * (m / 16777216)) = 16777216 ^ o.length * m := by
    rw [← Nat.mul_add, Nat.add_comm (m % 16777216), h1]
  omega
theorem of_len (o : List Int) (m x : Nat) (hm : m ≠ 0) (hx : x < 4611686018427387904) (h : vl 16777216 o + 16777216 ^ o.length * m = x) : o.length ≤ 2 := by
  rcases Nat.lt_or_ge o.length 3 with h1 | h1
  · omega
  · exfalso
    have h2 : (16777216 : Nat) ^ 3 ≤ 16777216 ^ o.length := Nat.pow_le_pow_right (by omega) h1
    have h3 : 16777216 ^ o.length * 1 ≤ 16777216 ^ o.length * m := Nat.mul_le_mul_left _ (by omega)
    have h4 : (16777216 : Nat) ^ 3 = 4722366482869645213696 := by decide
    omega
theorem l02Of_spec (n : Int) (hn : n.natAbs < 4611686018427387904) : Spec Tryz.prog 117 [.int .i64 n] [] [] (PWh n) := by
  refine enter Tryz.func117 Tryz.ntmps117 rfl (by kernel_rfl) zCon rfl fun G => ?_
  all_goals ((try refine zS ?_) <;> (repeat' (with_reducible first | refine And.intro ?_ ?_ | intro _)))
  rename_i b2 r0
  refine c_mid (κ := Unit) (fun _ => [(0, .int .i64 n), (2, ptr b2), (4, r0), (3, .int .i64 (if n < 0 then -1 else 1))]) (fun _ => [.row r0 2 1 0 [], .box b2 [.int .i64 0, .slice none 0 0] 46]) (fun _ => []) ?_ ?_
  · by_cases h : n < 0
    · rw [if_pos h]
      all_goals ((try refine zR ?_) <;> (repeat' (with_reducible first | refine And.intro ?_ ?_ | intro _)))
      all_goals (first | (exfalso; omega) | skip)
      exact e_out () zSub rfl (fun _ h => h)
    · rw [if_neg h]
      all_goals ((try refine zR ?_) <;> (repeat' (with_reducible first | refine And.intro ?_ ?_ | intro _)))
      all_goals (first | (exfalso; omega) | skip)
      exact e_out () zSub rfl (fun _ h => h)
  · intro _
    obtain ⟨sg, hsg⟩ : ∃ sg : Int, sg = (if n < 0 then -1 else 1) := ⟨_, rfl⟩
    rw [← hsg]
    have hs1 : sg = 1 ∨ sg = -1 := by rw [hsg]; split <;> simp
    have hmul : n = sg * (n.natAbs : Int) := by rw [hsg]; split <;> omega
    have hsv : sgn n = if n.natAbs = 0 then 0 else sg := by
      unfold sgn
      by_cases h1 : n = 0
      · rw [if_pos h1, if_pos (show n.natAbs = 0 by omega)]
      · rw [if_neg h1, if_neg (show ¬ n.natAbs = 0 by omega), hsg]
    clear hsg
    all_goals ((try refine zS ?_) <;> (repeat' (with_reducible first | refine And.intro ?_ ?_ | intro _)))
    refine c_say (t := 0) (v' := .int .i64 (sg * (n.natAbs : Int))) rfl (congrArg _ hmul) ?_
    refine c_while (ι := { p : Nat × Value × List Int // InR 16777216 p.2.2 ∧ vl 16777216 p.2.2 + 16777216 ^ p.2.2.length * p.1 = n.natAbs ∧ p.2.2.length ≤ 3 ∧ p.1 < 4611686018427387904 }) (κ := { p : Value × List Int // InR 16777216 p.2 ∧ vl 16777216 p.2 = n.natAbs ∧ p.2.length ≤ 3 })
      (fun p => [(0, .int .i64 (sg * (p.1.1 : Int))), (2, ptr b2), (4, p.1.2.1), (3, .int .i64 sg)]) (fun p => [.row p.1.2.1 2 1 p.1.2.2.length (p.1.2.2.map (Value.int .i64)), .box b2 [.int .i64 0, .slice none 0 0] 46]) (fun _ => []) (fun p => p.1.1)
      (fun p => [(2, ptr b2), (4, p.1.1), (3, .int .i64 sg)]) (fun p => [.row p.1.1 2 1 p.1.2.length (p.1.2.map (Value.int .i64)), .box b2 [.int .i64 0, .slice none 0 0] 46]) (fun _ => [])
      ⟨(n.natAbs, r0, []), (fun x hx => by cases hx), by simp [vl], Nat.zero_le _, hn⟩ (fun a w s => s.start zSub rfl zFsub) ?_ ?_
    · rintro ⟨⟨m, r, o⟩, ho, hv, hl, hm⟩
      dsimp only at ho hv hl hm ⊢
      by_cases hm0 : m = 0
      · subst hm0
        rw [Int.mul_comm, Int.natCast_zero, Int.zero_mul]
        all_goals ((try refine zR ?_) <;> (repeat' (with_reducible first | refine And.intro ?_ ?_ | intro _)))
        all_goals first | (exfalso; omega) | skip
        exact e_out ⟨(r, o), ho, by rw [Nat.mul_zero, Nat.add_zero] at hv; exact hv, hl⟩ zSub rfl (fun _ h => h)
      · have hl2 := of_len o m n.natAbs hm0 hn hv
        have hst := of_step o m n.natAbs hv
        clear hv
        rcases hs1 with h1 | h1 <;> subst h1
        · rw [Int.one_mul]
          all_goals ((try refine zR ?_) <;> (repeat' (with_reducible first | refine And.intro ?_ ?_ | intro _)))
          all_goals (first | (exfalso; omega) | skip)
          rename_i v0 v'
          exact e_again ⟨(m / 16777216, v', o ++ [((m % 16777216 : Nat) : Int)]), ho.snoc' (by omega), hst, by simp; omega, by dsimp only; omega⟩ (by dsimp only; omega) zSub (by dsimp only; rw [List.length_append]; rfl) (fun _ h => h)
        · rw [Int.neg_mul, Int.one_mul]
          have er : (-(m : Int)).tmod 16777216 = -((m % 16777216 : Nat) : Int) := by rw [Int.neg_tmod]; rfl
          have eq : IntKind.i64.wrap ((-(m : Int)).tdiv 16777216) = -((m / 16777216 : Nat) : Int) := by
            rw [Int.neg_tdiv, show (m : Int).tdiv 16777216 = ((m / 16777216 : Nat) : Int) from rfl, IntKind.wrap_i64]; omega
          all_goals ((try refine zR ?_) <;> (repeat' (with_reducible first | refine And.intro ?_ ?_ | intro _)))
          all_goals (first | (exfalso; omega) | skip)
          · rename_i v0 v'
            refine l_quo rfl rfl rfl rfl (by decide) eq ?_
            all_goals ((try refine zR ?_) <;> (repeat' (with_reducible first | refine And.intro ?_ ?_ | intro _)))
            refine e_again ⟨(m / 16777216, v', o ++ [((m % 16777216 : Nat) : Int)]), ho.snoc' (by omega), hst, by simp; omega, by dsimp only; omega⟩ (by dsimp only; omega) zSub (by dsimp only; rw [List.length_append, show (0 - -((m % 16777216 : Nat) : Int) : Int) = ((m % 16777216 : Nat) : Int) by omega]; rfl) (fun _ h => h)
          · rename_i v0 v'
            refine l_quo rfl rfl rfl rfl (by decide) eq ?_
            all_goals ((try refine zR ?_) <;> (repeat' (with_reducible first | refine And.intro ?_ ?_ | intro _)))
            refine e_again ⟨(m / 16777216, v', o ++ [((m % 16777216 : Nat) : Int)]), ho.snoc' (by omega), hst, by simp; omega, by dsimp only; omega⟩ (by dsimp only; omega) zSub (by dsimp only; rw [List.length_append, show (-((m % 16777216 : Nat) : Int) : Int) = ((m % 16777216 : Nat) : Int) by omega]; rfl) (fun _ h => h)
    · rintro ⟨⟨r, o⟩, ho, hv, hl⟩
      dsimp only at ho hv hl ⊢
      refine ends_freezeInts (ik := .i64) (l := o) .head rfl ?_
      all_goals ((try refine zR ?_) <;> (repeat' (with_reducible first | refine And.intro ?_ ?_ | intro _)))
      refine l_call rfl zEvs rfl (l02MakeV_spec sg r o (by omega) ho) zTake zFsub ?_
      rintro _ L' F' ⟨w', rfl, rfl, rfl⟩
      refine l_isList (.head _) fun hs' => ?_
      rw [hv, ← hsv]
      all_goals ((try refine zR ?_) <;> (repeat' (with_reducible first | refine And.intro ?_ ?_ | intro _)))
      exact e_resT rfl zRes .nil (fsub_cons zMem fsub_nil) ⟨w', rfl, rfl, rfl⟩
end Go.Proofs.YtbllgmcpebifhaaGreatDoor.K
end

section
/- The reference's exact numbers: made, opposite, sums, order. -/
namespace Go.Proofs.YtbllgmcpebifhaaGreatDoor.K
open Go Go.RowKit Go.Lib
set_option linter.all false
set_option maxRecDepth 4000
set_option maxHeartbeats 1000000

/-- An exact number is handed back. -/
def PDw (v e : Int) (r : Value) (L' : List Own) (F' : List Fact) : Prop := ∃ u, r = vDyadic (sgn v) u e ∧ L' = [] ∧ F' = [fList 1 (rInt .i64) u (limbs v.natAbs)]
theorem l03Neg_spec (u : Value) (v e : Int) (hl : (limbs v.natAbs).length ≤ 1000) : Spec Tryz.prog 166 [vDyadic (sgn v) u e] [] [fList 1 (rInt .i64) u (limbs v.natAbs)] (PDw (-v) e) := by
  refine enter Tryz.func166 Tryz.ntmps166 rfl (by kernel_rfl) zCon rfl fun G => ?_
  refine c_isList zMem fun hsl => ?_
  all_goals ((try refine zR ?_) <;> (repeat' (with_reducible first | refine And.intro ?_ ?_ | intro _)))
  rename_i bA b2
  refine c_draw ([5, 6], []) [.box bA [.int .i64 (sgn v), u, .int .i64 e] 48] [0, 1, 3, 4, 2, 5, 6] (by kernel_rfl) (by kernel_rfl) ?_
  all_goals ((try refine zD ?_) <;> (repeat' (with_reducible first | refine And.intro ?_ ?_ | intro _)))
  refine l_call rfl zEvs rfl (l02Neg_spec u v hl) zTake zFsub ?_
  rintro _ L' F' ⟨u', rfl, rfl, rfl⟩
  refine l_isList (.head _) fun hs' => ?_
  all_goals ((try refine zD ?_) <;> (repeat' (with_reducible first | refine And.intro ?_ ?_ | intro _)))
  exact e_resT rfl zRes .nil (fsub_cons zMem fsub_nil) ⟨u', rfl, rfl, rfl⟩
theorem l03Make_spec (u : Value) (v e : Int) (hl : (limbs v.natAbs).length ≤ 900) (ht : twos v.natAbs ≤ 80000) (he : -1000000 ≤ e ∧ e ≤ 1000000) : Spec Tryz.prog 116 [vWhole (sgn v) u, .int .i64 e] [] [fList 1 (rInt .i64) u (limbs v.natAbs)] (PDw (v.tdiv (2 ^ twos v.natAbs : Nat)) (if v = 0 then 0 else e + twos v.natAbs)) := by
  refine enter Tryz.func116 Tryz.ntmps116 rfl (by kernel_rfl) zCon rfl fun G => ?_
  refine c_isList zMem fun hsl => ?_
  by_cases hv : v = 0
  · subst hv
    have h0 : sgn 0 = 0 := rfl
    rw [h0]
    all_goals ((try refine zR ?_) <;> (repeat' (with_reducible first | refine And.intro ?_ ?_ | intro _)))
    all_goals first | (exfalso; omega) | skip
    refine ends_nilInts .i64 ?_
    exact e_resT rfl zRes .nil (fsub_cons (.head _) fsub_nil) ⟨.slice none 0 0, by simp [retVal]; rfl, rfl, by simp [limbs_zero]⟩
  · have hs0 : ¬ sgn v = 0 := fun h => hv (sgn_zero.1 h)
    have htw := l02Twos_spec (sgn v) u v.natAbs (by omega) (by omega) (by omega)
    all_goals (((try refine zR ?_) <;> (repeat' (with_reducible first | refine And.intro ?_ ?_ | intro _))) <;> (repeat' ((first | ((with_reducible apply l_callP); exact rfl; exact zEvs; exact rfl; (with_reducible apply htw); (case hF => exact zFsub); (try any_goals (refine propId ?_; omega)))) <;> ((try refine zR ?_) <;> (repeat' (with_reducible first | refine And.intro ?_ ?_ | intro _))))))
    all_goals first | (exfalso; contradiction) | skip
    refine l_call rfl zEvs rfl (l02Cut_spec u v (twos v.natAbs) hl (by omega)) zTake zFsub ?_
    rintro _ L' F' ⟨u', rfl, rfl, rfl⟩
    refine l_isList (.head _) fun hs' => ?_
    all_goals ((try refine zR ?_) <;> (repeat' (with_reducible first | refine And.intro ?_ ?_ | intro _)))
    exact e_resT rfl zRes .nil (fsub_cons zMem fsub_nil) ⟨u', by rw [if_neg hv]; rfl, rfl, rfl⟩
end Go.Proofs.YtbllgmcpebifhaaGreatDoor.K
end
