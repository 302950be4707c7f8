/- The reference's whole numbers: differences of limbs; of an int64; opposite, size. -/
import Derived.Test.YtbllgmcpebifhaaGreatDoorZJa

section
namespace Go.Proofs.YtbllgmcpebifhaaGreatDoor.K
open Go Go.RowKit Go.Lib
set_option linter.all false
set_option maxRecDepth 4000
set_option maxHeartbeats 1000000

/-- One digit of a difference. -/
theorem minus_step (o : List Int) (i : Nat) (c x y t c' : Int) (A W : Nat) (ho : o.length = i) (hc : 0 ≤ c) (hx : 0 ≤ x) (hy : 0 ≤ y) (ht : 0 ≤ t) (hc' : 0 ≤ c') (hd : t + y + c = x + 16777216 * c') (h : vl 16777216 o + W = A + 16777216 ^ i * c.toNat) :
    vl 16777216 (o ++ [t]) + (W + 16777216 ^ i * y.toNat) = (A + 16777216 ^ i * x.toNat) + 16777216 ^ (i + 1) * c'.toNat := by
  have := sub_step 16777216 (16777216 ^ i) (vl 16777216 o) A W x.toNat y.toNat c.toNat t.toNat c'.toNat h (by omega)
  rw [vl_append, ho, Nat.pow_succ]
  simp only [vl, Nat.mul_zero, Nat.add_zero]
  exact this

theorem l02Minus_spec (va vb : Value) (a b : List Int) (ha : InR 16777216 a) (hb : InR 16777216 b) (hla : a.length ≤ 990) (hlb : b.length ≤ a.length) (hle : vl 16777216 b ≤ vl 16777216 a) : Spec Tryz.prog 228 [va, vb] [] [fList 1 (rInt .i64) va a, fList 1 (rInt .i64) vb b]
    (fun r L' F' => ∃ o, InR 16777216 o ∧ vl 16777216 o = vl 16777216 a - vl 16777216 b ∧ o.length = a.length ∧ L' = [] ∧ F' = [fList 1 (rInt .i64) r o]) := by
  refine enter Tryz.func228 Tryz.ntmps228 rfl (by kernel_rfl) zCon rfl fun G => ?_
  all_goals ((try refine zS ?_) <;> (repeat' (with_reducible first | refine And.intro ?_ ?_ | intro _)))
  rename_i r0
  refine c_while (ι := { p : Nat × Value × List Int × Int // InR 16777216 p.2.2.1 ∧ p.2.2.1.length = p.1 ∧ (0 ≤ p.2.2.2 ∧ p.2.2.2 ≤ 1) ∧ p.1 ≤ a.length ∧ vl 16777216 p.2.2.1 + vl 16777216 (b.take p.1) = vl 16777216 (a.take p.1) + 16777216 ^ p.1 * p.2.2.2.toNat })
    (κ := { p : Value × List Int // InR 16777216 p.2 ∧ vl 16777216 p.2 = vl 16777216 a - vl 16777216 b ∧ p.2.length = a.length })
    (fun p => [(7, .int .i64 (p.1.1 : Int)), (6, .int .i64 p.1.2.2.2), (5, p.1.2.1), (0, va), (1, vb)]) (fun p => [.row p.1.2.1 2 1 p.1.2.2.1.length (p.1.2.2.1.map (Value.int .i64))]) (fun _ => [fList 1 (rInt .i64) va a, fList 1 (rInt .i64) vb b]) (fun p => a.length - p.1.1)
    (fun p => [(5, p.1.1)]) (fun p => [.row p.1.1 2 1 p.1.2.length (p.1.2.map (Value.int .i64))]) (fun _ => []) ⟨(0, r0, [], 0), (fun x hx => by cases hx), rfl, ⟨Int.le_refl 0, (by decide : (0 : Int) ≤ 1)⟩, Nat.zero_le _, by simp [vl]⟩ (fun a w s => s.start zSub rfl zFsub) ?_ ?_
  · rintro ⟨⟨i, r, o, c⟩, ho, hol, ⟨hc0, hc1⟩, hiM, hinv⟩
    dsimp only at ho hol hc0 hc1 hiM hinv ⊢
    by_cases hia : i < a.length
    · have hxa := ha.getD (by omega) i
      have hxb := hb.getD (by omega) i
      have hstep : ∀ t c' : Int, 0 ≤ t → 0 ≤ c' → t + b.getD i 0 + c = a.getD i 0 + 16777216 * c' → vl 16777216 (o ++ [t]) + vl 16777216 (b.take (i + 1)) = vl 16777216 (a.take (i + 1)) + 16777216 ^ (i + 1) * c'.toNat := fun t c' h1 h2 h3 => by
        rw [vl_tk, vl_tk]
        exact minus_step o i c _ _ t c' _ _ hol hc0 hxa.1 hxb.1 h1 h2 h3 hinv
      clear hinv
      have hga : a[i]? = some (a.getD i 0) := by rw [getD_lt hia]; exact List.getElem?_eq_getElem hia
      by_cases hib : i < b.length
      · have hgb : b[i]? = some (b.getD i 0) := by rw [getD_lt hib]; exact List.getElem?_eq_getElem hib
        revert hxa hxb hstep hga hgb
        generalize a.getD i 0 = x
        generalize b.getD i 0 = y
        rintro ⟨hx1, hx2⟩ ⟨hy1, hy2⟩ hstep hga hgb
        all_goals ((try refine zR ?_) <;> (repeat' (with_reducible first | refine And.intro ?_ ?_ | intro _)))
        all_goals (first | (exfalso; omega) | skip)
        · rename_i v0 v'
          refine e_again ⟨(i + 1, v', o ++ [x - c - y + 16777216], 1), ho.snoc' (by omega), by simp [hol], ⟨(by decide : (0 : Int) ≤ 1), (by decide : (1 : Int) ≤ 1)⟩, hia, hstep (x - c - y + 16777216) 1 (by omega) (by omega) (by omega)⟩ (by dsimp only; omega) zSub (by dsimp only; rw [show (o ++ [x - c - y + 16777216]).length = o.length + 1 from List.length_append]) (fun _ h => h)
        · rename_i v0 v'
          refine e_again ⟨(i + 1, v', o ++ [x - c - y], 0), ho.snoc' (by omega), by simp [hol], ⟨(by decide : (0 : Int) ≤ 0), (by decide : (0 : Int) ≤ 1)⟩, hia, hstep (x - c - y) 0 (by omega) (by omega) (by omega)⟩ (by dsimp only; omega) zSub (by dsimp only; rw [show (o ++ [x - c - y]).length = o.length + 1 from List.length_append]) (fun _ h => h)
      · rw [getD_ge hib] at hstep
        revert hxa hstep hga
        generalize a.getD i 0 = x
        rintro ⟨hx1, hx2⟩ hstep hga
        all_goals ((try refine zR ?_) <;> (repeat' (with_reducible first | refine And.intro ?_ ?_ | intro _)))
        all_goals (first | (exfalso; omega) | skip)
        · rename_i v0 v'
          refine e_again ⟨(i + 1, v', o ++ [x - c + 16777216], 1), ho.snoc' (by omega), by simp [hol], ⟨(by decide : (0 : Int) ≤ 1), (by decide : (1 : Int) ≤ 1)⟩, hia, hstep (x - c + 16777216) 1 (by omega) (by omega) (by omega)⟩ (by dsimp only; omega) zSub (by dsimp only; rw [show (o ++ [x - c + 16777216]).length = o.length + 1 from List.length_append]) (fun _ h => h)
        · rename_i v0 v'
          refine e_again ⟨(i + 1, v', o ++ [x - c], 0), ho.snoc' (by omega), by simp [hol], ⟨(by decide : (0 : Int) ≤ 0), (by decide : (0 : Int) ≤ 1)⟩, hia, hstep (x - c) 0 (by omega) (by omega) (by omega)⟩ (by dsimp only; omega) zSub (by dsimp only; rw [show (o ++ [x - c]).length = o.length + 1 from List.length_append]) (fun _ h => h)
    · have hl := vl_lt _ _ ho
      have hii : i = a.length := by omega
      rw [hol] at hl
      rw [hii, List.take_length, List.take_of_length_le hlb] at hinv
      rw [hii] at hl
      have hc : c = 0 := by
        rcases (by omega : c = 0 ∨ c = 1) with h | h
        · exact h
        · exfalso
          subst h
          rw [show (1 : Int).toNat = 1 from rfl, Nat.mul_one] at hinv
          omega
      subst hc
      rw [show (0 : Int).toNat = 0 from rfl, Nat.mul_zero] at hinv
      all_goals ((try refine zR ?_) <;> (repeat' (with_reducible first | refine And.intro ?_ ?_ | intro _)))
      all_goals (first | (exfalso; omega) | skip)
      exact e_out ⟨(r, o), ho, by dsimp only; omega, by dsimp only; omega⟩ zSub rfl (fun _ h => by cases h)
  · rintro ⟨⟨r, o⟩, ho, hv, hl⟩
    dsimp only
    all_goals ((try refine zR ?_) <;> (repeat' (with_reducible first | refine And.intro ?_ ?_ | intro _)))
    refine ends_freezeInts (ik := .i64) (l := o) .head rfl ?_
    exact e_resT rfl zRes .nil (fsub_cons (.head _) fsub_nil) ⟨o, ho, hv, hl, rfl, rfl⟩
theorem sgn_opp (v : Int) : sgn (-v) = - sgn v := by unfold sgn; split <;> split <;> (try split) <;> omega
theorem l02Neg_spec (u : Value) (v : Int) (hl : (limbs v.natAbs).length ≤ 1000) : Spec Tryz.prog 224 [vWhole (sgn v) u] [] [fList 1 (rInt .i64) u (limbs v.natAbs)] (PWh (-v)) := by
  refine enter Tryz.func224 Tryz.ntmps224 rfl (by kernel_rfl) zCon rfl fun G => ?_
  refine c_isList zMem fun hsl => ?_
  have hsg : -1 ≤ sgn v ∧ sgn v ≤ 1 := by unfold sgn; split <;> (try split) <;> omega
  have hlv := limbs_val v.natAbs
  all_goals ((try refine zR ?_) <;> (repeat' (with_reducible first | refine And.intro ?_ ?_ | intro _)))
  refine l_call rfl zEvs rfl (l02MakeV_spec (0 - sgn v) u (limbs v.natAbs) hl (limbs_range _)) zTake zFsub ?_
  rintro _ L' F' ⟨v', rfl, rfl, rfl⟩
  refine l_isList (.head _) fun hs' => ?_
  rw [hlv]
  all_goals ((try refine zR ?_) <;> (repeat' (with_reducible first | refine And.intro ?_ ?_ | intro _)))
  refine e_resT rfl zRes .nil (fsub_cons (.head _) fsub_nil) ⟨v', ?_, rfl, by rw [Int.natAbs_neg]⟩
  rw [sgn_opp, ← Int.zero_sub]
  by_cases h0 : v.natAbs = 0
  · rw [show v = 0 by omega]; rfl
  · simp only [retVal, if_neg h0]
end Go.Proofs.YtbllgmcpebifhaaGreatDoor.K
end

section
/- The reference's whole numbers: sums. -/
namespace Go.Proofs.YtbllgmcpebifhaaGreatDoor.K
open Go Go.RowKit Go.Lib
set_option linter.all false
set_option maxRecDepth 4000
set_option maxHeartbeats 1000000

theorem sgn_eq {v w : Int} (h : sgn v = sgn w) : (v = 0 ∧ w = 0) ∨ (0 < v ∧ 0 < w) ∨ (v < 0 ∧ w < 0) := by
  unfold sgn at h
  by_cases h1 : v = 0 <;> by_cases h2 : w = 0 <;> by_cases h3 : v < 0 <;> by_cases h4 : w < 0 <;> simp [h1, h2, h3, h4] at h <;> omega
theorem sgn_zero {v : Int} : sgn v = 0 ↔ v = 0 := by
  unfold sgn
  by_cases h1 : v = 0
  · simp [h1]
  · by_cases h3 : v < 0 <;> simp [h1, h3]
/-- Handing a made number back. -/
theorem made_sgn {s v : Int} {x : Nat} (hx : x = v.natAbs) (hs : v ≠ 0 → s = sgn v) : (if x = 0 then 0 else s) = sgn v := by
  by_cases h : x = 0
  · rw [if_pos h, sgn_zero.2 (by omega)]
  · rw [if_neg h, hs (by omega)]

theorem l02Add_spec (ua ub : Value) (va vb : Int) (M : Nat) (hla : (limbs va.natAbs).length ≤ M) (hlb : (limbs vb.natAbs).length ≤ M) (hM : M ≤ 980) : Spec Tryz.prog 169 [vWhole (sgn va) ua, vWhole (sgn vb) ub] [] [fList 1 (rInt .i64) ua (limbs va.natAbs), fList 1 (rInt .i64) ub (limbs vb.natAbs)] (PWh (va + vb)) := by
  refine enter Tryz.func169 Tryz.ntmps169 rfl (by kernel_rfl) zCon rfl fun G => ?_
  refine c_isList (v := ua) zMem fun hsa => ?_
  refine c_isList (v := ub) zMem fun hsb => ?_
  have hra := limbs_range va.natAbs
  have hrb := limbs_range vb.natAbs
  have hva := limbs_val va.natAbs
  have hvb := limbs_val vb.natAbs
  have hcl := l02CompareLimbs_spec ua ub va.natAbs vb.natAbs
  all_goals (((try refine zR ?_) <;> (repeat' (with_reducible first | refine And.intro ?_ ?_ | intro _))) <;> (repeat' ((first | ((with_reducible apply l_callP); exact rfl; exact zEvs; exact rfl; (with_reducible apply hcl); (case hF => exact zFsub); (try any_goals (refine propId ?_; omega)))) <;> ((try refine zR ?_) <;> (repeat' (with_reducible first | refine And.intro ?_ ?_ | intro _))))))
  · rename_i h1
    have h0 : va = 0 := sgn_zero.1 h1
    refine l_call rfl zEvs rfl (l02MakeV_spec (sgn vb) ub (limbs vb.natAbs) (by omega) hrb) zTake zFsub ?_
    rintro _ L' F' ⟨v', rfl, rfl, rfl⟩
    refine l_isList (.head _) fun hs' => ?_
    rw [hvb, made_sgn rfl (fun _ => rfl)]
    all_goals ((try refine zR ?_) <;> (repeat' (with_reducible first | refine And.intro ?_ ?_ | intro _)))
    exact e_resT rfl zRes .nil (fsub_cons (.head _) fsub_nil) ⟨v', by rw [h0, Int.zero_add]; rfl, rfl, by rw [h0, Int.zero_add]⟩
  · rename_i h2
    have h0 : vb = 0 := sgn_zero.1 h2
    refine l_call rfl zEvs rfl (l02MakeV_spec (sgn va) ua (limbs va.natAbs) (by omega) hra) zTake zFsub ?_
    rintro _ L' F' ⟨v', rfl, rfl, rfl⟩
    refine l_isList (.head _) fun hs' => ?_
    rw [hva, made_sgn rfl (fun _ => rfl)]
    all_goals ((try refine zR ?_) <;> (repeat' (with_reducible first | refine And.intro ?_ ?_ | intro _)))
    exact e_resT rfl zRes .nil (fsub_cons (.head _) fsub_nil) ⟨v', by rw [h0, Int.add_zero]; rfl, rfl, by rw [h0, Int.add_zero]⟩
  · rename_i bA bB bC h1 h2 h3
    have hsg := sgn_eq h3
    refine c_draw ([7, 8], []) [.box bA [.int .i64 (sgn va), ua] 46, .box bB [.int .i64 (sgn vb), ub] 46] [0, 1, 2, 3, 4, 5, 6, 7, 8] (by kernel_rfl) (by kernel_rfl) ?_
    all_goals ((try refine zD ?_) <;> (repeat' (with_reducible first | refine And.intro ?_ ?_ | intro _)))
    refine l_call rfl zEvs rfl (l02Plus_spec ua ub (limbs va.natAbs) (limbs vb.natAbs) hra hrb M hla hlb (by omega)) zTake zFsub ?_
    rintro r L' F' ⟨o, ho, hov, hol, rfl, rfl⟩
    refine l_isList (.head _) fun hsr => ?_
    all_goals ((try refine zD ?_) <;> (repeat' (with_reducible first | refine And.intro ?_ ?_ | intro _)))
    have habs : vl 16777216 o = (va + vb).natAbs := by rw [hov, hva, hvb]; omega
    have hsv : va + vb ≠ 0 → sgn va = sgn (va + vb) := fun _ => by
      unfold sgn
      rcases hsg with ⟨h5, h6⟩ | ⟨h5, h6⟩ | ⟨h5, h6⟩
      · exact absurd (sgn_zero.2 h5) h1
      · rw [if_neg (by omega), if_neg (by omega), if_neg (by omega), if_neg (by omega)]
      · rw [if_neg (by omega), if_pos (by omega), if_neg (by omega), if_pos (by omega)]
    refine l_call rfl zEvs rfl (l02MakeV_spec (sgn va) r o (by omega) ho) zTake zFsub ?_
    rintro _ L' F' ⟨v', rfl, rfl, rfl⟩
    refine l_isList (.head _) fun hs' => ?_
    rw [habs, made_sgn rfl hsv]
    all_goals ((try refine zD ?_) <;> (repeat' (with_reducible first | refine And.intro ?_ ?_ | intro _)))
    exact e_resT rfl zRes .nil (fsub_cons zMem fsub_nil) ⟨v', rfl, rfl, rfl⟩
  · rename_i bA bB bC h1 h2 h3 h4
    have hge : vb.natAbs ≤ va.natAbs := by
      rcases Nat.lt_or_ge va.natAbs vb.natAbs with h | h
      · rw [if_pos h] at h4; exact absurd h4 (by decide)
      · exact h
    have hlen : (limbs vb.natAbs).length ≤ (limbs va.natAbs).length := by
      rcases Nat.lt_or_ge (limbs va.natAbs).length (limbs vb.natAbs).length with h | h
      · have := limbs_lt_of_len h; omega
      · exact h
    have hopp : (0 < va ∧ vb < 0) ∨ (va < 0 ∧ 0 < vb) := by
      have e1 : va ≠ 0 := fun h => h1 (sgn_zero.2 h)
      have e2 : vb ≠ 0 := fun h => h2 (sgn_zero.2 h)
      rcases Int.lt_or_gt_of_ne e1 with e3 | e3 <;> rcases Int.lt_or_gt_of_ne e2 with e4 | e4
      · exact absurd (by unfold sgn; rw [if_neg e1, if_pos e3, if_neg e2, if_pos e4]) h3
      · exact .inr ⟨e3, e4⟩
      · exact .inl ⟨e3, e4⟩
      · exact absurd (by unfold sgn; rw [if_neg e1, if_neg (by omega), if_neg e2, if_neg (by omega)]) h3
    refine c_draw ([7, 8], []) [.box bA [.int .i64 (sgn va), ua] 46, .box bB [.int .i64 (sgn vb), ub] 46] [0, 1, 2, 3, 4, 5, 6, 7, 8] (by kernel_rfl) (by kernel_rfl) ?_
    all_goals ((try refine zD ?_) <;> (repeat' (with_reducible first | refine And.intro ?_ ?_ | intro _)))
    refine l_call rfl zEvs rfl (l02Minus_spec ua ub (limbs va.natAbs) (limbs vb.natAbs) hra hrb (by omega) hlen (by rw [hva, hvb]; exact hge)) zTake zFsub ?_
    rintro r L' F' ⟨o, ho, hov, hol, rfl, rfl⟩
    refine l_isList (.head _) fun hsr => ?_
    all_goals ((try refine zD ?_) <;> (repeat' (with_reducible first | refine And.intro ?_ ?_ | intro _)))
    have habs : vl 16777216 o = (va + vb).natAbs := by rw [hov, hva, hvb]; omega
    have hsv : va + vb ≠ 0 → sgn va = sgn (va + vb) := fun h0 => by
      unfold sgn
      rcases hopp with ⟨h5, h6⟩ | ⟨h5, h6⟩
      · rw [if_neg (by omega), if_neg (by omega), if_neg h0, if_neg (by omega)]
      · rw [if_neg (by omega), if_pos (by omega), if_neg h0, if_pos (by omega)]
    refine l_call rfl zEvs rfl (l02MakeV_spec (sgn va) r o (by omega) ho) zTake zFsub ?_
    rintro _ L' F' ⟨v', rfl, rfl, rfl⟩
    refine l_isList (.head _) fun hs' => ?_
    rw [habs, made_sgn rfl hsv]
    all_goals ((try refine zD ?_) <;> (repeat' (with_reducible first | refine And.intro ?_ ?_ | intro _)))
    exact e_resT rfl zRes .nil (fsub_cons zMem fsub_nil) ⟨v', rfl, rfl, rfl⟩
  · rename_i bA bB bC h1 h2 h3 h4
    have hge : va.natAbs < vb.natAbs := by
      rcases Nat.lt_or_ge va.natAbs vb.natAbs with h | h
      · exact h
      · exfalso; apply h4; rw [if_neg (by omega)]; split <;> decide
    have hlen : (limbs va.natAbs).length ≤ (limbs vb.natAbs).length := by
      rcases Nat.lt_or_ge (limbs vb.natAbs).length (limbs va.natAbs).length with h | h
      · have := limbs_lt_of_len h; omega
      · exact h
    have hopp : (0 < va ∧ vb < 0) ∨ (va < 0 ∧ 0 < vb) := by
      have e1 : va ≠ 0 := fun h => h1 (sgn_zero.2 h)
      have e2 : vb ≠ 0 := fun h => h2 (sgn_zero.2 h)
      rcases Int.lt_or_gt_of_ne e1 with e3 | e3 <;> rcases Int.lt_or_gt_of_ne e2 with e4 | e4
      · exact absurd (by unfold sgn; rw [if_neg e1, if_pos e3, if_neg e2, if_pos e4]) h3
      · exact .inr ⟨e3, e4⟩
      · exact .inl ⟨e3, e4⟩
      · exact absurd (by unfold sgn; rw [if_neg e1, if_neg (by omega), if_neg e2, if_neg (by omega)]) h3
    refine c_draw ([7, 8], []) [.box bA [.int .i64 (sgn va), ua] 46, .box bB [.int .i64 (sgn vb), ub] 46] [0, 1, 2, 3, 4, 5, 6, 7, 8] (by kernel_rfl) (by kernel_rfl) ?_
    all_goals ((try refine zD ?_) <;> (repeat' (with_reducible first | refine And.intro ?_ ?_ | intro _)))
    refine l_call rfl zEvs rfl (l02Minus_spec ub ua (limbs vb.natAbs) (limbs va.natAbs) hrb hra (by omega) hlen (by rw [hva, hvb]; omega)) zTake zFsub ?_
    rintro r L' F' ⟨o, ho, hov, hol, rfl, rfl⟩
    refine l_isList (.head _) fun hsr => ?_
    all_goals ((try refine zD ?_) <;> (repeat' (with_reducible first | refine And.intro ?_ ?_ | intro _)))
    have habs : vl 16777216 o = (va + vb).natAbs := by rw [hov, hva, hvb]; omega
    have hsv : va + vb ≠ 0 → sgn vb = sgn (va + vb) := fun h0 => by
      unfold sgn
      rcases hopp with ⟨h5, h6⟩ | ⟨h5, h6⟩
      · rw [if_neg (by omega), if_pos (by omega), if_neg h0, if_pos (by omega)]
      · rw [if_neg (by omega), if_neg (by omega), if_neg h0, if_neg (by omega)]
    refine l_call rfl zEvs rfl (l02MakeV_spec (sgn vb) r o (by omega) ho) zTake zFsub ?_
    rintro _ L' F' ⟨v', rfl, rfl, rfl⟩
    refine l_isList (.head _) fun hs' => ?_
    rw [habs, made_sgn rfl hsv]
    all_goals ((try refine zD ?_) <;> (repeat' (with_reducible first | refine And.intro ?_ ?_ | intro _)))
    exact e_resT rfl zRes .nil (fsub_cons zMem fsub_nil) ⟨v', rfl, rfl, rfl⟩
end Go.Proofs.YtbllgmcpebifhaaGreatDoor.K
end
