/- The program's runs. -/
import Derived.Test.YtbclejclkicgnaaZQh

section
namespace Go.Proofs.Ytbclejclkicgnaa.K
open Go Go.RowKit
set_option linter.all false
set_option maxRecDepth 4000
set_option maxHeartbeats 1000000

theorem map_nf2 (l : List (Nat × Nat)) : (l.map nf2).map nf2 = l.map nf2 := by
  rw [List.map_map]
  exact List.map_congr_left fun z _ => nf2_nf2 z
theorem sCode_x (c : (Nat × Nat) × Int) (x : Nat × Nat) : sCode c (nf2 x) = sCode c x := by simp only [sCode, csub_l]
theorem sLoop_map (p l : List (Nat × Nat)) (kind : Int) (turn : Bool) : ∀ (n : Nat) (s : List (Nat × Nat) × Nat), sLoop p (l.map nf2) kind turn n s = sLoop p l kind turn n s
  | 0, _ => rfl
  | n + 1, s => by
    have h : ∀ i, corr p (bif turn then s.1 else l.map nf2) kind i 0 = corr p (bif turn then s.1 else l) kind i 0 := fun i => by
      cases turn
      · exact corr_map p l kind i 0
      · rfl
    simp only [sLoop, List.length_map, lget_map, sCode_x, csub_l, h]
    split
    · exact sLoop_map p l kind turn n _
    · rfl
theorem stepP_map (p l : List (Nat × Nat)) (kind : Int) (turn : Bool) : stepP p (l.map nf2) kind turn = stepP p l kind turn := by
  unfold stepP
  rw [sLoop_map, map_nf2, List.length_map]
/-- The rest of a run: points, steps, the last move, still; and the code. -/
def rLoop (p : List (Nat × Nat)) (kind : Int) (turn : Bool) (bound : Nat) : Nat → List (Nat × Nat) × Int × Nat → (List (Nat × Nat) × Int × Nat × Bool) × Int
  | 0, s => ((s.1, s.2.1, s.2.2, false), 0)
  | n + 1, s => if (stepP p s.1 kind turn).2 ≠ 0 then (([], 0, 0, false), (stepP p s.1 kind turn).2)
    else if fcmp .leq (stepP p s.1 kind turn).1.2 bound = true then (((stepP p s.1 kind turn).1.1, s.2.1 + 1, (stepP p s.1 kind turn).1.2, true), 0)
    else rLoop p kind turn bound n ((stepP p s.1 kind turn).1.1, s.2.1 + 1, (stepP p s.1 kind turn).1.2)
def runP (p l : List (Nat × Nat)) (kind : Int) (turn : Bool) (bound : Nat) (most : Nat) : (List (Nat × Nat) × Int × Nat × Bool) × Int := rLoop p kind turn bound most (l.map nf2, 0, 0)
theorem sLoop_len (p l : List (Nat × Nat)) (kind : Int) (turn : Bool) : ∀ (n : Nat) (s : List (Nat × Nat) × Nat), (sLoop p l kind turn n s).1.1.length = s.1.length
  | 0, _ => rfl
  | n + 1, s => by
    rw [sLoop]
    split
    · rw [sLoop_len]; simp
    · rfl
theorem stepP_len (p l : List (Nat × Nat)) (kind : Int) (turn : Bool) : (stepP p l kind turn).1.1.length = l.length := by
  unfold stepP
  rw [sLoop_len]; simp
abbrev PRunI (b N : Nat) (fin : (List (Nat × Nat) × Int × Nat × Bool) × Int) : Value → List Own → List Fact → Prop :=
  PM (fun u : {u : Value × List (Nat × Nat) × Int × Nat × Bool // IsSl u.1 ∧ u.2.1.length = N ∧ (fin.2 = 0 → u.2.1.map nf2 = fin.1.1 ∧ u.2.2.1 = fin.1.2.1 ∧ nf u.2.2.2.1 = fin.1.2.2.1 ∧ u.2.2.2.2 = fin.1.2.2.2)} => .tuple #[u.1.1, .int .i64 u.1.2.2.1, .float .f64 u.1.2.2.2.1, .bool u.1.2.2.2.2]) fun u => [.row u.1.1 47 1 N (u.1.2.1.map cx), oSh b fin.2]
theorem run_spec (b : Nat) (vp vl : Value) (p l : List (Nat × Nat)) (kind : Int) (turn : Bool) (bound most : Nat) (h1 : 2 ≤ p.length) (h2 : p.length ≤ 13) (hl : l.length ≤ 13) (hm : most ≤ 200) :
    Spec Try.prog 32 [pt b, vp, vl, .int .i64 kind, .bool turn, .float .f64 bound, .int .i64 (most : Int)] [oSh b 0] [fList 1 rCx vp p, fList 1 rCx vl l] (PRunI b l.length (runP p l kind turn bound most)) := by
  obtain ⟨fin, hfin⟩ : ∃ r, r = runP p l kind turn bound most := ⟨_, rfl⟩
  rw [← hfin]
  refine enter Try.func32 Try.ntmps32 rfl (by kernel_rfl) zCon rfl fun G => ?_
  refine c_isList (v := vp) zMem fun hsp => ?_
  refine c_isList (v := vl) zMem fun hsl => ?_
  have hcl := Clone_spec vl l (by omega)
  all_goals (((try refine zR3 ?_) <;> (repeat' (with_reducible first | refine And.intro ?_ ?_ | intro _))) <;> (repeat' ((first | ((with_reducible apply l_callM); exact rfl; exact rfl; exact zEvs; exact rfl; (apply hcl); (case hL => exact zTake); (case hF => exact zFsub); (with_reducible intro _); (try any_goals (refine propId ?_; omega)))) <;> ((try refine zR3 ?_) <;> (repeat' (with_reducible first | refine And.intro ?_ ?_ | intro _))))))
  rename_i v'
  obtain ⟨v', hsv⟩ := v'
  dsimp only
  refine c_while (ι := {s : Nat × Value × List (Nat × Nat) × Nat // s.1 ≤ most ∧ IsSl s.2.1 ∧ s.2.2.1.length = l.length ∧ rLoop p kind turn bound (most - s.1) (s.2.2.1.map nf2, (s.1 : Int), nf s.2.2.2) = fin}) (κ := {u : Value × List (Nat × Nat) × Nat // IsSl u.1 ∧ u.2.1.length = l.length ∧ fin = ((u.2.1.map nf2, (most : Int), nf u.2.2, false), 0)})
    (fun s => [(20, .int .i64 ((s.1.1 : Int) + 1)), (19, .float .f64 s.1.2.2.2), (18, s.1.2.1), (0, pt b), (1, vp), (3, .int .i64 kind), (4, .bool turn), (5, .float .f64 bound), (6, .int .i64 (most : Int))]) (fun s => [.row s.1.2.1 47 1 l.length (s.1.2.2.1.map cx), oSh b 0]) (fun _ => [fList 1 rCx vp p]) (fun s => most - s.1.1)
    (fun u => [(18, u.1.1), (19, .float .f64 u.1.2.2), (6, .int .i64 (most : Int))]) (fun u => [.row u.1.1 47 1 l.length (u.1.2.1.map cx), oSh b 0]) (fun _ => [fList 1 rCx vp p])
    ⟨(0, v', l, floatOfInt .f64 0), Nat.zero_le _, hsv, rfl, ?_⟩ (fun _ _ s => s.start zSub zRfl zFsub) ?_ ?_
  · dsimp only
    rw [ofInt_zero, hfin]
    have : nf 0 = 0 := by decide +kernel
    rw [this]
    rfl
  · rintro ⟨⟨i, v, lo, la⟩, hi, hsv, hlo, hinv⟩
    dsimp only at hi hsv hlo hinv ⊢
    by_cases hi' : i < most
    · obtain ⟨k, hk⟩ : ∃ k, most - i = k + 1 := ⟨most - i - 1, by omega⟩
      rw [hk, rLoop] at hinv
      dsimp only at hinv
      rw [stepP_map] at hinv
      refine c_frzCx .head rfl ?_
      have hst := step_spec b vp v p lo kind turn h1 h2 (by omega)
      rw [hlo] at hst
      generalize stepP p lo kind turn = R at hst hinv
      all_goals ((try refine zR3 ?_) <;> (repeat' (with_reducible first | refine And.intro ?_ ?_ | intro _)))
      all_goals (first | (exfalso; omega) | skip)
      refine l_callM rfl rfl zEvs rfl hst zTake zFsub fun u => ?_
      obtain ⟨⟨v2, lo2, la2⟩, hs2, hlo2, hu⟩ := u
      dsimp only at hs2 hlo2 hu ⊢
      all_goals ((try refine zR3 ?_) <;> (repeat' (with_reducible first | refine And.intro ?_ ?_ | intro _)))
      · have h0 : R.2 ≠ 0 := by assumption
        rw [if_pos h0] at hinv
        subst hinv
        exact e_pm ⟨(v2, lo2, (i : Int) + 1, la2, true), hs2, hlo2, fun h => absurd h h0⟩ rfl zRes zTake rfl
      · rename_i h0 hle
        have h0 : R.2 = 0 := Decidable.of_not_not h0
        obtain ⟨u1, u2⟩ := hu h0
        have hle' : fcmp .leq R.1.2 bound = true := by rw [← u2, fcmp_l]; exact hle
        rw [if_neg (by rw [h0]; simp), if_pos hle'] at hinv
        subst hinv
        rw [h0]
        exact e_pm ⟨(v2, lo2, (i : Int) + 1, la2, true), hs2, hlo2, fun _ => ⟨u1, rfl, u2, rfl⟩⟩ rfl zRes zTake rfl
      · rename_i h0 hle
        have h0 : R.2 = 0 := Decidable.of_not_not h0
        obtain ⟨u1, u2⟩ := hu h0
        have hle' : ¬ fcmp .leq R.1.2 bound = true := by
          rw [← u2, fcmp_l]
          intro h
          have hle : fcmp .leq la2 bound = false := hle
          rw [hle] at h; cases h
        rw [if_neg (by rw [h0]; simp), if_neg hle', ← u1, ← u2] at hinv
        have hk2 : most - (i + 1) = k := by omega
        refine e_againT (Lr := []) ⟨(i + 1, v2, lo2, la2), hi', hs2, hlo2, by dsimp only; rw [hk2]; exact hinv⟩ (by dsimp only; omega) zSub (by rw [h0]; exact zTake) zFsub
    · all_goals ((try refine zR3 ?_) <;> (repeat' (with_reducible first | refine And.intro ?_ ?_ | intro _)))
      all_goals (first | (exfalso; omega) | skip)
      have h0 : most - i = 0 := by omega
      rw [h0, rLoop] at hinv
      have him : i = most := by omega
      subst him
      exact e_out ⟨(v, lo, la), hsv, hlo, hinv.symm⟩ zSub rfl zFsub
  · rintro ⟨⟨v, lo, la⟩, hsv, hlo, hres⟩
    dsimp only at hsv hlo hres ⊢
    subst hres
    all_goals ((try refine zR3 ?_) <;> (repeat' (with_reducible first | refine And.intro ?_ ?_ | intro _)))
    exact e_pm ⟨(v, lo, (most : Int), la, false), hsv, hlo, fun _ => ⟨rfl, rfl, rfl, rfl⟩⟩ rfl zRes zTake rfl
end Go.Proofs.Ytbclejclkicgnaa.K
end

section
/- The program's StepTogether and RunTogether. -/
namespace Go.Proofs.Ytbclejclkicgnaa.K
open Go Go.RowKit
set_option linter.all false
set_option maxRecDepth 4000
set_option maxHeartbeats 1000000

theorem c_regsQ {G : Ctx} {n : Nat} {P : Program} {Q : Post} {m m' : Regs} {L : List Own} {F : List Fact} {c : Code} (hm : ∀ t v, look m' t = some v → look m t = some v) (h : RunC G n P c Q m' L F) : RunC G n P c Q m L F := fun a w s => h a w (s.sub hm fun _ h => h)
theorem codeP_zero {p l : List (Nat × Nat)} {kind : Int} (h : codeP p l kind = 0) : isP p = true ∧ l.all cfin = true ∧ l.length + 1 = p.length ∧ (kind = 0 ∨ kind = 1) := by
  unfold codeP at h
  split at h
  · cases h
  · rename_i h1
    split at h
    · cases h
    · rename_i h2
      have h1 : (isP p && l.all cfin) = true := by simpa using h1
      simp only [Bool.and_eq_true] at h1
      refine ⟨h1.1, h1.2, ?_, ?_⟩
      · exact Decidable.byContradiction fun h => h2 (.inl h)
      · exact Decidable.byContradiction fun h => h2 (.inr h)
theorem nf_zero : nf 0 = 0 := by decide +kernel
/-- What StepTogether hands back. -/
def stepT (p l : List (Nat × Nat)) (kind : Int) (turn : Bool) : (List (Nat × Nat) × Nat) × Int :=
  if codeP p l kind ≠ 0 then (([], 0), codeP p l kind) else if (stepP p l kind turn).2 ≠ 0 then (([], 0), (stepP p l kind turn).2) else stepP p l kind turn
abbrev PStepT (T : (List (Nat × Nat) × Nat) × Int) : Value → List Own → List Fact → Prop :=
  PM (fun u : {u : Value × List (Nat × Nat) × Nat // IsSl u.1 ∧ u.2.1.map nf2 = T.1.1 ∧ nf u.2.2 = T.1.2} => .tuple #[u.1.1, .float .f64 u.1.2.2, .int .i64 T.2]) fun u => [.row u.1.1 47 1 u.1.2.1.length (u.1.2.1.map cx)]
theorem stepTogether_spec (vp vl : Value) (p l : List (Nat × Nat)) (kind : Int) (turn : Bool) : Spec Try.prog 23 [fieldV, vp, vl, .int .i64 kind, .bool turn] [] [fList 1 rCx vp p, fList 1 rCx vl l] (PStepT (stepT p l kind turn)) := by
  refine enter Try.func23 Try.ntmps23 rfl (by kernel_rfl) zCon rfl fun G => ?_
  refine c_isList (v := vp) zMem fun hsp => ?_
  refine c_isList (v := vl) zMem fun hsl => ?_
  have hcode := togetherCode_spec vp vl p l kind
  all_goals (((try refine zR3 ?_) <;> (repeat' (with_reducible first | refine And.intro ?_ ?_ | intro _))) <;> (repeat' ((first | ((with_reducible apply l_callP); exact rfl; exact zEvs; exact rfl; (with_reducible apply hcode); (case hF => exact zFsub); (try any_goals (refine propId ?_; omega)))) <;> ((try refine zR3 ?_) <;> (repeat' (with_reducible first | refine And.intro ?_ ?_ | intro _))))))
  · have h0 : codeP p l kind ≠ 0 := by assumption
    have hT : stepT p l kind turn = (([], 0), codeP p l kind) := by unfold stepT; rw [if_pos h0]
    rw [hT]
    refine ends_nilRow (e := 47) 1 ?_
    exact e_pm ⟨(.slice none 0 0, [], 0), ⟨_, _, _, rfl⟩, rfl, nf_zero⟩ rfl zRes zTake rfl
  · have h0 : codeP p l kind = 0 := Decidable.of_not_not (by assumption)
    obtain ⟨q1, q2, q3, q4⟩ := codeP_zero h0
    obtain ⟨p1, p2, p3, p4⟩ := isP_all q1
    refine l_callM rfl rfl zEvs rfl newSheet_spec zTake zFsub fun b => ?_
    have hst := step_spec b vp vl p l kind turn p1 p2 (by omega)
    all_goals ((try refine zR3 ?_) <;> (repeat' (with_reducible first | refine And.intro ?_ ?_ | intro _)))
    refine l_callM rfl rfl zEvs rfl hst zTake zFsub fun u => ?_
    obtain ⟨⟨v2, lo2, la2⟩, hs2, hlo2, hu⟩ := u
    dsimp only at hs2 hlo2 hu ⊢
    all_goals ((try refine zR3 ?_) <;> (repeat' (with_reducible first | refine And.intro ?_ ?_ | intro _)))
    · have h2 : (stepP p l kind turn).2 ≠ 0 := by assumption
      have hT : stepT p l kind turn = (([], 0), (stepP p l kind turn).2) := by unfold stepT; rw [if_neg (by rw [h0]; simp), if_pos h2]
      rw [hT]
      refine c_regsQ (m' := [(14, pt b)]) zSub ?_
      refine c_draw ([6], []) [oSh b (stepP p l kind turn).2] [0, 1, 2, 3, 4, 5, 6] (by kernel_rfl) (by kernel_rfl) ?_
      all_goals ((try refine zD3 ?_) <;> (repeat' (with_reducible first | refine And.intro ?_ ?_ | intro _)))
      refine ends_nilRow (e := 47) 1 ?_
      exact e_pm ⟨(.slice none 0 0, [], 0), ⟨_, _, _, rfl⟩, rfl, nf_zero⟩ rfl zRes zTake rfl
    · have h2 : (stepP p l kind turn).2 = 0 := Decidable.of_not_not (by assumption)
      obtain ⟨u1, u2⟩ := hu h2
      have hT : stepT p l kind turn = stepP p l kind turn := by unfold stepT; rw [if_neg (by rw [h0]; simp), if_neg (by rw [h2]; simp)]
      rw [hT, ← hlo2]
      exact e_pm ⟨(v2, lo2, la2), hs2, u1, u2⟩ rfl zRes zTake (by rw [h2]; rfl)
theorem StepTogether_spec (vp vl : Value) (p l : List (Nat × Nat)) (kind : Int) (turn : Bool) : Spec Try.prog 9 [vp, vl, .int .i64 kind, .bool turn] [] [fList 1 rCx vp p, fList 1 rCx vl l] (PStepT (stepT p l kind turn)) := by
  refine enter Try.func9 Try.ntmps9 rfl (by kernel_rfl) zCon rfl fun G => ?_
  refine c_isList (v := vp) zMem fun hsp => ?_
  refine c_isList (v := vl) zMem fun hsl => ?_
  have hst := stepTogether_spec vp vl p l kind turn
  all_goals (((try refine zR3 ?_) <;> (repeat' (with_reducible first | refine And.intro ?_ ?_ | intro _))) <;> (repeat' ((first | ((with_reducible apply l_callM); exact rfl; exact rfl; exact zEvs; exact rfl; (apply wideField_spec); (case hL => exact zTake); (case hF => exact zFsub); (with_reducible intro _); (try any_goals (refine propId ?_; omega))) | ((with_reducible apply l_callM); exact rfl; exact rfl; exact zEvs; exact rfl; (apply hst); (case hL => exact zTake); (case hF => exact zFsub); (with_reducible intro _); (try any_goals (refine propId ?_; omega)))) <;> ((try refine zR3 ?_) <;> (repeat' (with_reducible first | refine And.intro ?_ ?_ | intro _))))))
  rename_i u
  exact e_pm u rfl zRes zTake rfl
end Go.Proofs.Ytbclejclkicgnaa.K
end

section
/- The program's RunTogether. -/
namespace Go.Proofs.Ytbclejclkicgnaa.K
open Go Go.RowKit
set_option linter.all false
set_option maxRecDepth 4000
set_option maxHeartbeats 1000000

/-- The error of a float and of a number of steps. -/
def codeO (bound : Nat) (most : Int) : Int := if ffin bound = false then 1 else if fcmp .lss bound 0 = true ∨ ¬ (0 ≤ most ∧ most ≤ 200) then 2 else 0
def codeR (p l : List (Nat × Nat)) (kind : Int) (bound : Nat) (most : Int) : Int := if codeP p l kind = 1 ∨ codeO bound most = 1 then 1 else if codeP p l kind ≠ 0 ∨ codeO bound most ≠ 0 then 2 else 0
/-- What RunTogether hands back. -/
def runT (p l : List (Nat × Nat)) (kind : Int) (turn : Bool) (bound : Nat) (most : Int) : (List (Nat × Nat) × Int × Nat × Bool) × Int :=
  if codeR p l kind bound most ≠ 0 then (([], 0, 0, false), codeR p l kind bound most) else if (runP p l kind turn bound most.toNat).2 ≠ 0 then (([], 0, 0, false), (runP p l kind turn bound most.toNat).2) else runP p l kind turn bound most.toNat
abbrev PRunR (T : (List (Nat × Nat) × Int × Nat × Bool) × Int) : Value → List Own → List Fact → Prop :=
  PM (fun u : {u : Value × List (Nat × Nat) × Nat // IsSl u.1 ∧ u.2.1.map nf2 = T.1.1 ∧ nf u.2.2 = T.1.2.2.1} => .tuple #[u.1.1, .int .i64 T.1.2.1, .float .f64 u.1.2.2, .bool T.1.2.2.2, .int .i64 T.2]) fun u => [.row u.1.1 47 1 u.1.2.1.length (u.1.2.1.map cx)]
abbrev PRun (T : (List (Nat × Nat) × Int × Nat × Bool) × Int) : Value → List Own → List Fact → Prop :=
  PM (fun u : {u : Value × List (Nat × Nat) × Nat // IsSl u.1 ∧ u.2.1.map nf2 = T.1.1 ∧ nf u.2.2 = T.1.2.2.1} => .tuple #[.agg #[u.1.1, .int .i64 T.1.2.1, .float .f64 u.1.2.2, .bool T.1.2.2.2], .int .i64 T.2]) fun u => [.row u.1.1 47 1 u.1.2.1.length (u.1.2.1.map cx)]
theorem runTogether_spec (vp vl : Value) (p l : List (Nat × Nat)) (kind : Int) (turn : Bool) (bound : Nat) (most : Int) : Spec Try.prog 17 [fieldV, vp, vl, .int .i64 kind, .bool turn, .float .f64 bound, .int .i64 most] [] [fList 1 rCx vp p, fList 1 rCx vl l] (PRunR (runT p l kind turn bound most)) := by
  refine enter Try.func17 Try.ntmps17 rfl (by kernel_rfl) zCon rfl fun G => ?_
  refine c_isList (v := vp) zMem fun hsp => ?_
  refine c_isList (v := vl) zMem fun hsl => ?_
  have hcode := togetherCode_spec vp vl p l kind
  have hother : ∀ u : FW (fop .sub bound bound), Spec Try.prog 30 [.bool (fcmp .eql u.1 0), .float .f64 bound, .int .i64 most] [] [] (Gives (.int .i64 (codeO bound most))) := fun u => by
    have h := runCode_spec (fcmp .eql u.1 0) bound most
    have e : fcmp .eql u.1 0 = ffin bound := u.cl _ _
    rw [e] at h
    rw [e]
    exact h
  have hR1 : codeP p l kind = 1 ∨ codeO bound most = 1 → runT p l kind turn bound most = (([], 0, 0, false), 1) := fun h => by
    unfold runT codeR
    rw [if_pos h, if_pos (by decide)]
  have hR2 : ¬ (codeP p l kind = 1 ∨ codeO bound most = 1) → codeP p l kind ≠ 0 ∨ codeO bound most ≠ 0 → runT p l kind turn bound most = (([], 0, 0, false), 2) := fun h k => by
    unfold runT codeR
    rw [if_neg h, if_pos k, if_pos (by decide)]
  all_goals (((try refine zR3 ?_) <;> (repeat' (with_reducible first | refine And.intro ?_ ?_ | intro _))) <;> (repeat' ((first | ((with_reducible apply l_callP); exact rfl; exact zEvs; exact rfl; (with_reducible apply hcode); (case hF => exact zFsub); (try any_goals (refine propId ?_; omega))) | ((with_reducible apply l_callP); exact rfl; exact zEvs; exact rfl; (with_reducible apply hother); (case hF => exact zFsub); (try any_goals (refine propId ?_; omega)))) <;> ((try refine zR3 ?_) <;> (repeat' (with_reducible first | refine And.intro ?_ ?_ | intro _))))))
  · rw [hR1 (.inl (by assumption))]
    refine ends_nilRow (e := 47) 1 ?_
    exact e_pm ⟨(.slice none 0 0, [], 0), ⟨_, _, _, rfl⟩, rfl, nf_zero⟩ rfl zRes zTake rfl
  · rw [hR1 (.inr (by assumption))]
    refine ends_nilRow (e := 47) 1 ?_
    exact e_pm ⟨(.slice none 0 0, [], 0), ⟨_, _, _, rfl⟩, rfl, nf_zero⟩ rfl zRes zTake rfl
  · rename_i h1 h2 h3
    rw [hR2 (fun h => h.elim h1 h2) (.inl h3)]
    refine ends_nilRow (e := 47) 1 ?_
    exact e_pm ⟨(.slice none 0 0, [], 0), ⟨_, _, _, rfl⟩, rfl, nf_zero⟩ rfl zRes zTake rfl
  · rename_i h1 h2 h3 h4
    rw [hR2 (fun h => h.elim h1 h2) (.inr h4)]
    refine ends_nilRow (e := 47) 1 ?_
    exact e_pm ⟨(.slice none 0 0, [], 0), ⟨_, _, _, rfl⟩, rfl, nf_zero⟩ rfl zRes zTake rfl
  · rename_i h1 h2 h3 h4
    have h3 : codeP p l kind = 0 := Decidable.of_not_not h3
    have h4 : codeO bound most = 0 := Decidable.of_not_not h4
    have hcR : codeR p l kind bound most = 0 := by unfold codeR; rw [if_neg (fun h => h.elim h1 h2), if_neg (by rw [h3, h4]; simp)]
    obtain ⟨q1, q2, q3, q4⟩ := codeP_zero h3
    obtain ⟨p1, p2, p3, p4⟩ := isP_all q1
    obtain ⟨m, hm, hmost⟩ : ∃ m : Nat, m ≤ 200 ∧ most = (m : Int) := by
      unfold codeO at h4
      split at h4
      · cases h4
      · split at h4
        · cases h4
        · rename_i h5
          have h6 : 0 ≤ most ∧ most ≤ 200 := Decidable.byContradiction fun h => h5 (.inr h)
          exact ⟨most.toNat, by omega, by omega⟩
    subst hmost
    have htn : (m : Int).toNat = m := Int.toNat_natCast m
    refine l_callM rfl rfl zEvs rfl newSheet_spec zTake zFsub fun b => ?_
    have hst := run_spec b vp vl p l kind turn bound m p1 p2 (by omega) hm
    all_goals ((try refine zR3 ?_) <;> (repeat' (with_reducible first | refine And.intro ?_ ?_ | intro _)))
    refine l_callM rfl rfl zEvs rfl hst zTake zFsub fun u => ?_
    obtain ⟨⟨v2, lo2, st2, la2, sl2⟩, hs2, hlo2, hu⟩ := u
    dsimp only at hs2 hlo2 hu ⊢
    all_goals ((try refine zR3 ?_) <;> (repeat' (with_reducible first | refine And.intro ?_ ?_ | intro _)))
    · have h2 : (runP p l kind turn bound m).2 ≠ 0 := by assumption
      have hT : runT p l kind turn bound (m : Int) = (([], 0, 0, false), (runP p l kind turn bound m).2) := by unfold runT; rw [if_neg (by rw [hcR]; simp), htn, if_pos h2]
      rw [hT]
      refine c_regsQ (m' := [(21, pt b)]) zSub ?_
      refine c_draw ([8], []) [oSh b (runP p l kind turn bound m).2] [0, 1, 2, 3, 4, 5, 6, 7, 8] (by kernel_rfl) (by kernel_rfl) ?_
      all_goals ((try refine zD3 ?_) <;> (repeat' (with_reducible first | refine And.intro ?_ ?_ | intro _)))
      refine ends_nilRow (e := 47) 1 ?_
      exact e_pm ⟨(.slice none 0 0, [], 0), ⟨_, _, _, rfl⟩, rfl, nf_zero⟩ rfl zRes zTake rfl
    · have h2 : (runP p l kind turn bound m).2 = 0 := Decidable.of_not_not (by assumption)
      obtain ⟨u1, u2, u3, u4⟩ := hu h2
      have hT : runT p l kind turn bound (m : Int) = runP p l kind turn bound m := by unfold runT; rw [if_neg (by rw [hcR]; simp), htn, if_neg (by rw [h2]; simp)]
      rw [hT, ← hlo2]
      exact e_pm ⟨(v2, lo2, la2), hs2, u1, u3⟩ rfl zRes zTake (by rw [h2, ← u2, ← u4]; rfl)
theorem RunTogether_spec (vp vl : Value) (p l : List (Nat × Nat)) (kind : Int) (turn : Bool) (bound : Nat) (most : Int) : Spec Try.prog 6 [vp, vl, .int .i64 kind, .bool turn, .float .f64 bound, .int .i64 most] [] [fList 1 rCx vp p, fList 1 rCx vl l] (PRun (runT p l kind turn bound most)) := by
  refine enter Try.func6 Try.ntmps6 rfl (by kernel_rfl) zCon rfl fun G => ?_
  refine c_isList (v := vp) zMem fun hsp => ?_
  refine c_isList (v := vl) zMem fun hsl => ?_
  have hst := runTogether_spec vp vl p l kind turn bound most
  all_goals (((try refine zR3 ?_) <;> (repeat' (with_reducible first | refine And.intro ?_ ?_ | intro _))) <;> (repeat' ((first | ((with_reducible apply l_callM); exact rfl; exact rfl; exact zEvs; exact rfl; (apply wideField_spec); (case hL => exact zTake); (case hF => exact zFsub); (with_reducible intro _); (try any_goals (refine propId ?_; omega)))) <;> ((try refine zR3 ?_) <;> (repeat' (with_reducible first | refine And.intro ?_ ?_ | intro _))))))
  refine l_callM rfl rfl zEvs rfl hst zTake zFsub fun u => ?_
  obtain ⟨⟨v2, lo2, la2⟩, hs2, hlo2, hu⟩ := u
  dsimp only at hs2 hlo2 hu ⊢
  all_goals ((try refine zR3 ?_) <;> (repeat' (with_reducible first | refine And.intro ?_ ?_ | intro _)))
  exact e_pm ⟨(v2, lo2, la2), hs2, hlo2, hu⟩ rfl zRes zTake rfl
end Go.Proofs.Ytbclejclkicgnaa.K
end
