/- Decimal texts, read into large numbers. -/
import Derived.Test.YtbllgmcpebifhaaGreatDoorZGg
import Derived.Test.YtbllgmcpebifhaaGreatDoorZMa
namespace Go.Proofs.YtbllgmcpebifhaaGreatDoor.K
open Go Go.RowKit
set_option linter.all false
set_option maxRecDepth 4000
set_option maxHeartbeats 1000000
set_option exponentiation.threshold 8000

theorem readBig_spec (t : List UInt8) (hd : ∀ c ∈ body t, isd c) (hne : body t ≠ []) (hl : (body t).length ≤ 2000) :
    Spec Tryz.prog 190 [.string ⟨t.toArray⟩] [] [] (fun r L' F' => ∃ b mag, r = .tuple #[ptr b, .bool true] ∧ L' = [oInt b (tval t) mag] ∧ F' = [fDig mag (tval t).natAbs]) := by
  refine enter Tryz.func190 Tryz.ntmps190 rfl (by kernel_rfl) zCon rfl fun G => ?_
  obtain ⟨c, r, rfl⟩ : ∃ c r, t = c :: r := by
    cases t with
    | nil => exact absurd rfl hne
    | cons c r => exact ⟨c, r, rfl⟩
  have hneg : isNeg (c :: r) = decide ((c.toNat : Int) = 45) := by
    unfold isNeg
    by_cases h : c = 45
    · subst h; simp
    · have h45 : (45 : UInt8).toNat = 45 := rfl
      have : ¬ (c.toNat : Int) = 45 := fun h' => h (UInt8.toNat_inj.1 (by omega))
      simp [h, this]
  have hbody : body (c :: r) = if (c.toNat : Int) = 45 then r else c :: r := by
    unfold body
    rw [hneg]
    by_cases h : (c.toNat : Int) = 45 <;> simp [h]
  have htv : tval (c :: r) = sv (decide ((c.toNat : Int) = 45)) (dval (body (c :: r))) := by
    unfold tval sv
    rw [hneg]
  have hlen : ((c :: r).length : Int) = r.length + 1 := by simp
  have hget0 : (c :: r)[0]? = some c := rfl
  rw [htv]
  revert hd hne hl hbody
  generalize body (c :: r) = D
  intro hd hne hl hbody
  have hl63 : (c :: r).length ≤ 3000 := by
    have := congrArg List.length hbody
    split at this <;> simp at this ⊢ <;> omega
  all_goals ((try refine zS ?_) <;> (repeat' (with_reducible first | refine And.intro ?_ ?_ | intro _)))
  refine l_guard rfl rfl (fun _ => ?_) (fun h => absurd h (by omega))
  all_goals ((try refine zS ?_) <;> (repeat' (with_reducible first | refine And.intro ?_ ?_ | intro _)))
  refine c_mid (κ := Unit) (fun _ => [(0, .string ⟨D.toArray⟩), (4, .bool (decide ((c.toNat : Int) = 45)))]) (fun _ => []) (fun _ => []) ?_ ?_
  · by_cases hc : (c.toNat : Int) = 45
    · rw [if_pos hc] at hbody
      subst hbody
      all_goals ((try refine zR ?_) <;> (repeat' (with_reducible first | refine And.intro ?_ ?_ | intro _)))
      all_goals (first | (exfalso; omega) | skip)
      exact e_out () zSub rfl (fun _ h => h)
    · rw [if_neg hc] at hbody
      subst hbody
      all_goals ((try refine zR ?_) <;> (repeat' (with_reducible first | refine And.intro ?_ ?_ | intro _)))
      all_goals (first | (exfalso; omega) | skip)
      exact e_out () zSub rfl (fun _ h => h)
  · intro _
    all_goals ((try refine zS ?_) <;> (repeat' (with_reducible first | refine And.intro ?_ ?_ | intro _)))
    rename_i b5
    refine l_call rfl zEvs rfl (newBig_spec 10 (by omega)) zTake zFsub ?_
    rintro _ L' F' ⟨b6, m6, rfl, rfl, rfl⟩
    refine l_nilDig ?_
    all_goals ((try refine zS ?_) <;> (repeat' (with_reducible first | refine And.intro ?_ ?_ | intro _)))
    have hten := ten_small
    have hD2000 : dval D < 10 ^ 2000 := Nat.lt_of_lt_of_le (dval_lt hd) (Nat.pow_le_pow_right (by omega) hl)
    refine c_while (ι := { p : Nat × Value // p.1 ≤ D.length }) (κ := Value)
      (fun p => [(23, .int .i64 (p.1.1 : Int)), (22, .int .i64 (D.length : Int)), (5, ptr b5), (6, ptr b6), (0, .string ⟨D.toArray⟩), (4, .bool (decide ((c.toNat : Int) = 45)))]) (fun p => [oInt b5 ((dval (D.take p.1.1) : Nat) : Int) p.1.2, oInt b6 10 m6]) (fun p => [fDig p.1.2 ((dval (D.take p.1.1) : Nat) : Int).natAbs, fDig m6 (10 : Int).natAbs]) (fun p => D.length - p.1.1)
      (fun _ => [(5, ptr b5), (0, .string ⟨D.toArray⟩), (4, .bool (decide ((c.toNat : Int) = 45)))]) (fun m => [oInt b5 ((dval D : Nat) : Int) m]) (fun m => [fDig m ((dval D : Nat) : Int).natAbs]) ⟨(0, .slice none 0 0), Nat.zero_le _⟩ (fun _ _ s => (s.take (L' := [oInt b5 0 (.slice none 0 0), oInt b6 10 m6]) zTake).start zSub rfl zFsub) ?_ ?_
    · rintro ⟨⟨i, m5⟩, hi⟩
      dsimp only at hi ⊢
      by_cases hil : i < D.length
      · have hisd := hd _ (List.getElem_mem hil)
        have hget : D[i]? = some D[i] := List.getElem?_eq_getElem hil
        have hsn : dval (D.take (i + 1)) = 10 * dval (D.take i) + (D[i].toNat - 48) := by rw [List.take_succ_eq_append_getElem hil, dval_snoc]
        have hv1 : dval (D.take (i + 1)) < 10 ^ 2000 := Nat.lt_of_lt_of_le (dval_lt fun c hc => hd c (List.mem_of_mem_take hc)) (Nat.pow_le_pow_right (by omega) (by rw [List.length_take]; omega))
        revert hisd hget hsn
        generalize D[i] = e
        intro hisd hget hsn
        obtain ⟨hi1, hi2⟩ := hisd
        all_goals ((try refine zR ?_) <;> (repeat' (with_reducible first | refine And.intro ?_ ?_ | intro _)))
        all_goals (first | (exfalso; omega) | skip)
        refine c_draw ([11], []) [] [0, 1, 2, 3, 5, 6, 7, 8, 9, 4, 10, 11] (by kernel_rfl) (by kernel_rfl) ?_
        all_goals ((try refine zD ?_) <;> (repeat' (with_reducible first | refine And.intro ?_ ?_ | intro _)))
        have h900 : (4294967296 : Nat) ^ 250 ≤ 4294967296 ^ 900 := Nat.pow_le_pow_right (by omega) (by omega)
        have hV : ((dval (D.take i) : Nat) : Int).natAbs < 4294967296 ^ 900 := by rw [Int.natAbs_natCast]; omega
        have hP : (((dval (D.take i) : Nat) : Int) * 10).natAbs < 4294967296 ^ 900 := by
          have : (((dval (D.take i) : Nat) : Int) * 10).natAbs = 10 * dval (D.take i) := by omega
          rw [this]; omega
        have h10 : ((10 : Int)).natAbs < 4294967296 ^ 900 := Nat.lt_of_lt_of_le (by decide : (10 : Int).natAbs < 4294967296 ^ 1) (Nat.pow_le_pow_right (by omega) (by omega))
        have he : ((e.toNat : Int) - 48).natAbs < 4294967296 ^ 900 := Nat.lt_of_lt_of_le (by omega : ((e.toNat : Int) - 48).natAbs < 4294967296 ^ 1) (Nat.pow_le_pow_right (by omega) (by omega))
        refine l_callI rfl zEvs rfl (Mul_spec b5 b5 b6 _ 10 _ _ m5 m6 [oInt b6 10 m6] zMem zMem hV h10) zTake zFsub fun m51 => ?_
        all_goals ((try refine zD ?_) <;> (repeat' (with_reducible first | refine And.intro ?_ ?_ | intro _)))
        refine l_call rfl zEvs rfl (newBig_spec ((e.toNat : Int) - 48) (by omega)) zTake zFsub ?_
        rintro _ L' F' ⟨b7, m7, rfl, rfl, rfl⟩
        all_goals ((try refine zD ?_) <;> (repeat' (with_reducible first | refine And.intro ?_ ?_ | intro _)))
        refine l_callI rfl zEvs rfl (Add_spec b5 b5 b7 _ ((e.toNat : Int) - 48) _ _ m51 m7 [oInt b7 ((e.toNat : Int) - 48) m7] zMem zMem hP he) zTake zFsub fun m52 => ?_
        all_goals ((try refine zD ?_) <;> (repeat' (with_reducible first | refine And.intro ?_ ?_ | intro _)))
        have ev : ((dval (D.take i) : Nat) : Int) * 10 + ((e.toNat : Int) - 48) = ((dval (D.take (i + 1)) : Nat) : Int) := by rw [hsn]; omega
        rw [ev]
        refine ends_take (L' := [oInt b5 ((dval (D.take (i + 1)) : Nat) : Int) m52, oInt b6 10 m6]) zTake ?_
        exact e_again ⟨(i + 1, m52), by dsimp only; omega⟩ (by dsimp only; omega) zSub rfl zFsub
      · all_goals ((try refine zR ?_) <;> (repeat' (with_reducible first | refine And.intro ?_ ?_ | intro _)))
        all_goals (first | (exfalso; omega) | skip)
        have : i = D.length := by omega
        subst this
        rw [List.take_length]
        refine ends_take (L' := [oInt b5 ((dval D : Nat) : Int) m5]) zTake ?_
        exact e_out m5 zSub rfl zFsub
    · intro m
      refine c_dig (mag := m) zMem fun d hdd => ?_
      all_goals ((try refine zR ?_) <;> (repeat' (with_reducible first | refine And.intro ?_ ?_ | intro _)))
      refine l_call rfl zEvs rfl (put_spec b5 _ (decide ((c.toNat : Int) = 45)) m m d hdd.1) zTake zFsub ?_
      rintro _ L' F' ⟨m', rfl, rfl, rfl⟩
      have hD63 : D.length ≤ 9223372036854775807 := by omega
      all_goals ((try refine zR ?_) <;> (repeat' (with_reducible first | refine And.intro ?_ ?_ | intro _)))
      have hpos : decide (0 < (D.length : Int)) = true := decide_eq_true (by have := List.length_pos_iff.2 hne; omega)
      rw [hdd.2.2, Int.natAbs_natCast]
      exact e_resT rfl zRes (.cons .head .nil) (fsub_cons (.head _) fsub_nil) ⟨b5, m', by simp only [retVal, hpos], rfl, rfl⟩
end Go.Proofs.YtbllgmcpebifhaaGreatDoor.K
