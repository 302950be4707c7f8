/- The reference's runs. -/
import Derived.Test.YtbclejclkicgnaaZQr
namespace Go.Proofs.Ytbclejclkicgnaa.K
open Go Go.RowKit
set_option linter.all false
set_option maxRecDepth 4000
set_option maxHeartbeats 1000000

theorem l07Run_spec (vp vl : Value) (p l : List (Nat × Nat)) (kind : Int) (turn : Bool) (bound most : Nat) (h1 : 2 ≤ p.length) (h2 : p.length ≤ 13) (hlast : cfin (lget p (p.length - 1)) = true) (hl : l.length ≤ 13) (hm : most ≤ 200) :
    Spec Try.prog 22 [vp, vl, .int .i64 kind, .bool turn, .float .f64 bound, .int .i64 (most : Int)] [] [fList 1 rCx vp p, fList 1 rCx vl l] (PRun (runP p l kind turn bound most)) := by
  obtain ⟨fin, hfin⟩ : ∃ r, r = runP p l kind turn bound most := ⟨_, rfl⟩
  rw [← hfin]
  refine enter Try.func22 Try.ntmps22 rfl (by kernel_rfl) zCon rfl fun G => ?_
  refine c_isList (v := vp) zMem fun hsp => ?_
  refine c_isList (v := vl) zMem fun hsl => ?_
  all_goals ((try refine zR3 ?_) <;> (repeat' (with_reducible first | refine And.intro ?_ ?_ | intro _)))
  refine l_appendCx rfl rfl rfl rfl rfl zMem (fun _ => .head) (by simp [maxLen]; omega) (by omega) fun v' => ?_
  refine l_isRow (v := v') (.own (.head _)) fun hsv _ => ?_
  rw [Nat.zero_add, List.nil_append]
  all_goals ((try refine zR3 ?_) <;> (repeat' (with_reducible first | refine And.intro ?_ ?_ | intro _)))
  rename_i b12 _ _ b14
  refine c_while (ι := {s : Nat × Value × List (Nat × Nat) × Nat × Bool // s.1 ≤ most ∧ IsSl s.2.1 ∧ s.2.2.1.length = l.length ∧ (bif s.2.2.2.2 then ((s.2.2.1.map nf2, (s.1 : Int), nf s.2.2.2.1, true), 0) else rLoop p kind turn bound (most - s.1) (s.2.2.1.map nf2, (s.1 : Int), nf s.2.2.2.1)) = fin}) (κ := {s : Nat × Value × List (Nat × Nat) × Nat × Bool // IsSl s.2.1 ∧ fin = ((s.2.2.1.map nf2, (s.1 : Int), nf s.2.2.2.1, s.2.2.2.2), 0)})
    (fun _ => [(14, pt b14), (12, pt b12), (0, vp), (2, .int .i64 kind), (3, .bool turn), (4, .float .f64 bound), (5, .int .i64 (most : Int))]) (fun s => [.box b14 [s.1.2.1, .int .i64 (s.1.1 : Int), .float .f64 s.1.2.2.2.1, .bool s.1.2.2.2.2] 29, .row s.1.2.1 47 1 s.1.2.2.1.length (s.1.2.2.1.map cx), .box b12 [.slice none 0 0, .int .i64 0, .float .f64 0, .bool false] 29]) (fun _ => [fList 1 rCx vp p]) (fun s => most - s.1.1)
    (fun _ => [(14, pt b14), (12, pt b12)]) (fun s => [.box b14 [s.1.2.1, .int .i64 (s.1.1 : Int), .float .f64 s.1.2.2.2.1, .bool s.1.2.2.2.2] 29, .row s.1.2.1 47 1 s.1.2.2.1.length (s.1.2.2.1.map cx), .box b12 [.slice none 0 0, .int .i64 0, .float .f64 0, .bool false] 29]) (fun _ => [])
    ⟨(0, v', l, 0, false), Nat.zero_le _, hsv, rfl, by dsimp only; rw [nf_zero, hfin]; rfl⟩ (fun _ _ s => s.start zSub zRfl zFsub) ?_ ?_
  · rintro ⟨⟨i, v, lo, la, st⟩, hi, hsv, hlo, hinv⟩
    dsimp only at hi hsv hlo hinv ⊢
    refine c_isRow (v := v) (.own (.tail _ (.head _))) fun _ _ => ?_
    all_goals ((try refine zR3 ?_) <;> (repeat' (with_reducible first | refine And.intro ?_ ?_ | intro _)))
    · have hst : st = false := by assumption
      subst hst
      have hi' : i < most := by omega
      obtain ⟨k, hk⟩ : ∃ k, most - i = k + 1 := ⟨most - i - 1, by omega⟩
      dsimp only [cond] at hinv
      rw [hk, rLoop] at hinv
      dsimp only at hinv
      rw [stepP_map] at hinv
      have hstp := l07Step_spec vp v p lo kind turn h1 h2 hlast (by omega)
      generalize stepP p lo kind turn = R at hstp hinv
      refine l_frzCx (.tail .head) rfl ?_
      refine l_callM rfl rfl zEvs rfl hstp zTake zFsub fun u => ?_
      obtain ⟨⟨v2, lo2, la2⟩, hs2, hu⟩ := u
      dsimp only at hs2 hu ⊢
      all_goals ((try refine zR3 ?_) <;> (repeat' (with_reducible first | refine And.intro ?_ ?_ | intro _)))
      · have h0 : R.2 ≠ 0 := by assumption
        rw [if_pos h0] at hinv
        subst hinv
        refine ends_nilRow (e := 47) 1 ?_
        exact e_pm ⟨(.slice none 0 0, [], 0), ⟨_, _, _, rfl⟩, rfl, nf_zero⟩ rfl zRes zTake rfl
      · have h0 : R.2 = 0 := Decidable.of_not_not (by assumption)
        obtain ⟨u0, u1, u2⟩ := hu h0
        rw [if_neg (by rw [h0]; simp), ← u1, ← u2] at hinv
        have hk2 : most - (i + 1) = k := by omega
        refine e_againT (Lr := []) ⟨(i + 1, v2, lo2, la2, fcmp .leq la2 bound), hi', hs2, u0.trans hlo, ?_⟩ (by dsimp only; omega) zSub ?_ (fun _ h => .tail _ h)
        · dsimp only
          rw [hk2]
          rw [fcmp_l] at hinv
          rw [← hinv]
          cases fcmp .leq la2 bound <;> simp
        · dsimp only
          rw [show (((i + 1 : Nat)) : Int) = (i : Int) + 1 by omega]
          exact zTake
    · have hst : st = true := by assumption
      subst hst
      dsimp only [cond] at hinv
      exact e_out ⟨(i, v, lo, la, true), hsv, hinv.symm⟩ zSub rfl (fun _ h => by cases h)
    · have h0 : most - i = 0 := by omega
      cases st with
      | true =>
        dsimp only [cond] at hinv
        exact e_out ⟨(i, v, lo, la, true), hsv, hinv.symm⟩ zSub rfl (fun _ h => by cases h)
      | false =>
        dsimp only [cond] at hinv
        rw [h0, rLoop] at hinv
        exact e_out ⟨(i, v, lo, la, false), hsv, hinv.symm⟩ zSub rfl (fun _ h => by cases h)
  · rintro ⟨⟨i, v, lo, la, st⟩, hsv, hres⟩
    dsimp only at hsv hres ⊢
    subst hres
    all_goals ((try refine zR3 ?_) <;> (repeat' (with_reducible first | refine And.intro ?_ ?_ | intro _)))
    exact e_pm ⟨(v, lo, la), hsv, rfl, rfl⟩ rfl zRes zTake rfl
theorem codeP_cases (p l : List (Nat × Nat)) (kind : Int) : codeP p l kind = 0 ∨ codeP p l kind = 1 ∨ codeP p l kind = 2 := by
  unfold codeP
  split
  · exact .inr (.inl rfl)
  · split
    · exact .inr (.inr rfl)
    · exact .inl rfl
theorem rLoop_err (p : List (Nat × Nat)) (kind : Int) (turn : Bool) (bound : Nat) : ∀ (n : Nat) (s : List (Nat × Nat) × Int × Nat), (rLoop p kind turn bound n s).2 ≠ 0 → (([], 0, 0, false), (rLoop p kind turn bound n s).2) = rLoop p kind turn bound n s
  | 0, _, h => absurd rfl h
  | n + 1, s, h => by
    rw [rLoop] at h ⊢
    by_cases h1 : (stepP p s.1 kind turn).2 ≠ 0
    · rw [if_pos h1]
    · rw [if_neg h1] at h ⊢
      by_cases h2 : fcmp .leq (stepP p s.1 kind turn).1.2 bound = true
      · rw [if_pos h2] at h; exact absurd rfl h
      · rw [if_neg h2] at h ⊢
        exact rLoop_err p kind turn bound n _ h
theorem runP_err (p l : List (Nat × Nat)) (kind : Int) (turn : Bool) (bound most : Nat) (h : (runP p l kind turn bound most).2 ≠ 0) : (([], 0, 0, false), (runP p l kind turn bound most).2) = runP p l kind turn bound most := rLoop_err _ _ _ _ _ _ h
theorem specRun_spec (vp vl : Value) (p l : List (Nat × Nat)) (kind : Int) (turn : Bool) (bound : Nat) (most : Int) : Spec Try.prog 7 [vp, vl, .int .i64 kind, .bool turn, .float .f64 bound, .int .i64 most] [] [fList 1 rCx vp p, fList 1 rCx vl l] (PRun (runT p l kind turn bound most)) := by
  refine enter Try.func7 Try.ntmps7 rfl (by kernel_rfl) zCon rfl fun G => ?_
  refine c_isList (v := vp) zMem fun hsp => ?_
  refine c_isList (v := vl) zMem fun hsl => ?_
  have hcode := l07Code_spec vp vl p l kind
  have hR := l06Real_spec bound
  have hI := l01In_spec most 0 200
  have hcc := codeP_cases p l kind
  have hR1 : codeP p l kind = 1 ∨ codeO bound most = 1 → runT p l kind turn bound most = (([], 0, 0, false), 1) := fun h => by
    unfold runT codeR
    rw [if_pos h, if_pos (by decide)]
  have hR2 : ¬ (codeP p l kind = 1 ∨ codeO bound most = 1) → codeP p l kind ≠ 0 ∨ codeO bound most ≠ 0 → runT p l kind turn bound most = (([], 0, 0, false), 2) := fun h k => by
    unfold runT codeR
    rw [if_neg h, if_pos k, if_pos (by decide)]
  all_goals (((try refine zR3 ?_) <;> (repeat' (with_reducible first | refine And.intro ?_ ?_ | intro _))) <;> (repeat' ((first | ((with_reducible apply l_callP); exact rfl; exact zEvs; exact rfl; (with_reducible apply hcode); (case hF => exact zFsub); (try any_goals (refine propId ?_; omega))) | ((with_reducible apply l_callP); exact rfl; exact zEvs; exact rfl; (with_reducible apply hR); (case hF => exact zFsub); (try any_goals (refine propId ?_; omega))) | ((with_reducible apply l_callP); exact rfl; exact zEvs; exact rfl; (with_reducible apply hI); (case hF => exact zFsub); (try any_goals (refine propId ?_; omega)))) <;> ((try refine zR3 ?_) <;> (repeat' (with_reducible first | refine And.intro ?_ ?_ | intro _))))))
  all_goals (first | (exfalso; omega) | skip)
  · rename_i h1 h2
    rw [hR1 (.inr (by unfold codeO; rw [if_pos h2]))]
    refine ends_nilRow (e := 47) 1 ?_
    exact e_pm ⟨(.slice none 0 0, [], 0), ⟨_, _, _, rfl⟩, rfl, nf_zero⟩ rfl zRes zTake rfl
  · rename_i h1 h2 h3 h4
    have ho : codeO bound most = 2 := by unfold codeO; rw [if_neg (by simp [h2]), if_pos (.inl h4)]
    rw [hR2 (by rw [ho]; omega) (.inr (by rw [ho]; decide))]
    refine ends_nilRow (e := 47) 1 ?_
    exact e_pm ⟨(.slice none 0 0, [], 0), ⟨_, _, _, rfl⟩, rfl, nf_zero⟩ rfl zRes zTake rfl
  · rename_i h1 h2 h3 h4 h5
    simp only [Bool.and_eq_false_iff, decide_eq_false_iff_not] at h5
    have ho : codeO bound most = 2 := by unfold codeO; rw [if_neg (by simp [h2]), if_pos (.inr (by omega))]
    rw [hR2 (by rw [ho]; omega) (.inr (by rw [ho]; decide))]
    refine ends_nilRow (e := 47) 1 ?_
    exact e_pm ⟨(.slice none 0 0, [], 0), ⟨_, _, _, rfl⟩, rfl, nf_zero⟩ rfl zRes zTake rfl
  · rename_i h1 h2 h3 h4 h5 h6
    simp only [Bool.and_eq_true, decide_eq_true_eq] at h5
    have ho : codeO bound most = 0 := by unfold codeO; rw [if_neg (by simp [h2]), if_neg (by rw [h4]; simp; omega)]
    have hcR : codeR p l kind bound most = 0 := by unfold codeR; rw [if_neg (by omega), if_neg (by omega)]
    obtain ⟨q1, q2, q3, q4⟩ := codeP_zero h3
    obtain ⟨p1, p2, p3, p4⟩ := isP_all q1
    obtain ⟨m, hm, hmost⟩ : ∃ m : Nat, m ≤ 200 ∧ most = (m : Int) := ⟨most.toNat, by omega, by omega⟩
    subst hmost
    have htn : (m : Int).toNat = m := Int.toNat_natCast m
    have hst := l07Run_spec vp vl p l kind turn bound m p1 p2 (p3 _ (by omega)) (by omega) hm
    refine l_callM rfl rfl zEvs rfl hst zTake zFsub fun u => ?_
    obtain ⟨⟨v2, lo2, la2⟩, hs2, hlo2, hu⟩ := u
    dsimp only at hs2 hlo2 hu ⊢
    all_goals ((try refine zR3 ?_) <;> (repeat' (with_reducible first | refine And.intro ?_ ?_ | intro _)))
    have hT : runT p l kind turn bound (m : Int) = runP p l kind turn bound m := by
      unfold runT
      rw [if_neg (by rw [hcR]; simp), htn]
      by_cases h2 : (runP p l kind turn bound m).2 = 0
      · rw [if_neg (by rw [h2]; simp)]
      · rw [if_pos h2, runP_err p l kind turn bound m h2]
    rw [hT]
    exact e_pm ⟨(v2, lo2, la2), hs2, hlo2, hu⟩ rfl zRes zTake rfl
  · rename_i h1 h2 h3 h4
    have ho : codeO bound most ≠ 1 := by unfold codeO; rw [if_neg (by simp [h2])]; split <;> decide
    have h5 : codeP p l kind = 2 := by omega
    rw [hR2 (by omega) (.inl h3)]
    refine ends_nilRow (e := 47) 1 ?_
    exact e_pm ⟨(.slice none 0 0, [], 0), ⟨_, _, _, rfl⟩, rfl, nf_zero⟩ rfl zRes zTake (by rw [h5]; rfl)
  · rename_i h1 h3 h4
    have h5 : codeP p l kind = 1 := by omega
    rw [hR1 (.inl h5)]
    refine ends_nilRow (e := 47) 1 ?_
    exact e_pm ⟨(.slice none 0 0, [], 0), ⟨_, _, _, rfl⟩, rfl, nf_zero⟩ rfl zRes zTake (by rw [h5]; rfl)
end Go.Proofs.Ytbclejclkicgnaa.K
