/- The law of runs, in plain terms. -/
import Derived.Test.YtbclejclkicgnaaZQs
namespace Go.Proofs.Ytbclejclkicgnaa.K
open Go Go.RowKit
set_option linter.all false

theorem lget_set (l : List (Nat × Nat)) (i j : Nat) (y : Nat × Nat) (hi : i < l.length) : lget (l.set i y) j = if j = i then y else lget l j := by
  unfold lget
  rw [List.getD_eq_getElem?_getD, List.getD_eq_getElem?_getD, List.getElem?_set]
  by_cases h : i = j
  · subst h; simp [hi]
  · rw [if_neg h, if_neg (fun k => h k.symm)]
theorem lk_zero9 {c : Int} {z : Nat × Nat} (h : lk c z = 0) : c = 0 ∧ cfin z = true := by
  unfold lk at h
  by_cases hc : c = 0
  · subst hc
    cases hz : cfin z with
    | true => exact ⟨rfl, rfl⟩
    | false => rw [hz] at h; exact absurd h (by decide)
  · have : (decide (c = 0)) = false := by simp [hc]
    rw [this] at h
    exact absurd h hc
theorem sCode_zero {c : (Nat × Nat) × Int} {x : Nat × Nat} (h : sCode c x = 0) : cfin (csub x c.1) = true := by
  unfold sCode at h
  split at h
  · exact absurd h (by decide)
  · exact (lk_zero9 h).2
theorem sLoop_fin (p l : List (Nat × Nat)) (kind : Int) (turn : Bool) : ∀ (n : Nat) (s : List (Nat × Nat) × Nat), n ≤ l.length → s.1.length = l.length → (∀ j, j < l.length - n → cfin (lget s.1 j) = true) → (sLoop p l kind turn n s).2 = 0 → ∀ j, j < l.length → cfin (lget (sLoop p l kind turn n s).1.1 j) = true
  | 0, s, _, _, h, _ => fun j hj => h j (by omega)
  | n + 1, s, hn, hl, h, h0 => by
    rw [sLoop] at h0 ⊢
    split at h0
    · rename_i hs
      rw [if_pos hs]
      refine sLoop_fin p l kind turn n _ (by omega) (by simp [hl]) (fun j hj => ?_) h0
      dsimp only
      rw [lget_set _ _ _ _ (by omega)]
      by_cases hji : j = l.length - (n + 1)
      · rw [if_pos hji]; exact sCode_zero hs
      · rw [if_neg hji]; exact h j (by omega)
    · rename_i hs
      exact absurd h0 hs
theorem stepP_fin {p l : List (Nat × Nat)} {kind : Int} {turn : Bool} (h : (stepP p l kind turn).2 = 0) : (stepP p l kind turn).1.1.all cfin = true := by
  rw [List.all_eq_true]
  intro x hx
  obtain ⟨j, hj, e⟩ := List.getElem_of_mem hx
  have hlen := stepP_len p l kind turn
  have := sLoop_fin p l kind turn l.length (l.map nf2, 0) (Nat.le_refl _) (by simp) (fun j hj => by omega) h j (by omega)
  unfold stepP at hj e
  unfold lget at this
  rw [List.getD_eq_getElem?_getD, List.getElem?_eq_getElem hj, e] at this
  exact this
theorem all_nf (l : List (Nat × Nat)) : (l.map nf2).all cfin = l.all cfin := by
  rw [List.all_map]
  congr 1
  funext z
  exact cfin_nf z
theorem codeP_next {p q q' : List (Nat × Nat)} {kind : Int} {turn : Bool} (h : codeP p q kind = 0) (hs : (stepP p q kind turn).2 = 0) (hq : q'.map nf2 = (stepP p q kind turn).1.1) : codeP p q' kind = 0 := by
  obtain ⟨h1, h2, h3, h4⟩ := codeP_zero h
  have hl : q'.length = q.length := by rw [← stepP_len p q kind turn, ← hq, List.length_map]
  have hf : q'.all cfin = true := by rw [← all_nf, hq]; exact stepP_fin hs
  unfold codeP
  rw [h1, hf, hl, if_neg (by simp), if_neg (by rintro (h | h); exact h h3; exact h h4)]
abbrev Res9 : Type := (List (Nat × Nat) × Int × Nat × Bool) × Int
theorem rLoop_facts (p : List (Nat × Nat)) (kind : Int) (turn : Bool) (bound : Nat) : ∀ (n : Nat) (s : List (Nat × Nat) × Int × Nat) (fin : Res9), rLoop p kind turn bound n s = fin → fin.2 = 0 →
    s.2.1 ≤ fin.1.2.1 ∧ fin.1.2.1 ≤ s.2.1 + n ∧ (fin.1.2.2.2 = true → s.2.1 < fin.1.2.1 ∧ fcmp .leq fin.1.2.2.1 bound = true) ∧ (fin.1.2.2.2 = false → fin.1.2.1 = s.2.1 + n ∧ (s.2.1 < fin.1.2.1 → fcmp .leq fin.1.2.2.1 bound = false))
  | 0, s, fin, h, h0 => by
    subst h
    rw [rLoop]
    exact ⟨Int.le_refl _, by simp, (fun h => by cases h), fun _ => ⟨by simp, fun h => absurd h (Int.lt_irrefl _)⟩⟩
  | n + 1, s, fin, h, h0 => by
    rw [rLoop] at h
    by_cases h1 : (stepP p s.1 kind turn).2 ≠ 0
    · rw [if_pos h1] at h
      subst h
      exact absurd h0 h1
    · rw [if_neg h1] at h
      by_cases h2 : fcmp .leq (stepP p s.1 kind turn).1.2 bound = true
      · rw [if_pos h2] at h
        subst h
        exact ⟨by dsimp only; omega, by dsimp only; omega, fun _ => ⟨by dsimp only; omega, h2⟩, (fun h => by cases h)⟩
      · rw [if_neg h2] at h
        obtain ⟨f1, f2, f3, f4⟩ := rLoop_facts p kind turn bound n _ fin h h0
        dsimp only at f1 f2 f3 f4
        refine ⟨by omega, by omega, fun h => ⟨by omega, (f3 h).2⟩, fun hf => ?_⟩
        obtain ⟨g1, g2⟩ := f4 hf
        refine ⟨by omega, fun _ => ?_⟩
        by_cases hlt : s.2.1 + 1 < fin.1.2.1
        · exact g2 hlt
        · have hn : n = 0 := by omega
          subst hn
          rw [rLoop] at h
          subst h
          exact Bool.eq_false_iff.2 h2
/-- What is left of a run. -/
def Rest (p : List (Nat × Nat)) (kind : Int) (turn : Bool) (bound : Nat) (fin : Res9) (n : Nat) (i : Int) (q : List (Nat × Nat)) (la : Nat) : Prop :=
  (fin.1.2.1 = i ∧ q.map nf2 = fin.1.1 ∧ nf la = fin.1.2.2.1) ∨ (i < fin.1.2.1 ∧ codeP p q kind = 0 ∧ rLoop p kind turn bound n (q.map nf2, i, nf la) = fin)
theorem rest_enter {p : List (Nat × Nat)} {kind : Int} {turn : Bool} {bound : Nat} {fin : Res9} {n : Nat} {i : Int} {q : List (Nat × Nat)} {la : Nat} (h0 : fin.2 = 0) (hc : codeP p q kind = 0) (h : rLoop p kind turn bound n (q.map nf2, i, nf la) = fin) : Rest p kind turn bound fin n i q la := by
  obtain ⟨f1, f2, f3, f4⟩ := rLoop_facts p kind turn bound n _ fin h h0
  dsimp only at f1 f2 f3 f4
  by_cases hlt : i < fin.1.2.1
  · exact .inr ⟨hlt, hc, h⟩
  · cases n with
    | zero => rw [rLoop] at h; subst h; exact .inl ⟨rfl, rfl, rfl⟩
    | succ n =>
      exfalso
      cases hs : fin.1.2.2.2 with
      | true => exact hlt (f3 hs).1
      | false => have := (f4 hs).1; omega
theorem rest_step {p : List (Nat × Nat)} {kind : Int} {turn : Bool} {bound : Nat} {fin : Res9} {n : Nat} {i : Int} {q : List (Nat × Nat)} {la : Nat} (h0 : fin.2 = 0) (h : Rest p kind turn bound fin n i q la) (hi : i < fin.1.2.1) :
    (stepT p q kind turn).2 = 0 ∧ ∀ q' la', q'.map nf2 = (stepT p q kind turn).1.1 → nf la' = (stepT p q kind turn).1.2 → (i + 1 < fin.1.2.1 → fcmp .leq la' bound = false) ∧ Rest p kind turn bound fin (n - 1) (i + 1) q' la' := by
  rcases h with ⟨h, _⟩ | ⟨_, hc, h⟩
  · omega
  · cases n with
    | zero => rw [rLoop] at h; subst h; exact absurd hi (Int.lt_irrefl _)
    | succ n =>
      rw [rLoop] at h
      dsimp only at h
      rw [stepP_map] at h
      by_cases h1 : (stepP p q kind turn).2 ≠ 0
      · rw [if_pos h1] at h; subst h; exact absurd h0 h1
      · have h1' : (stepP p q kind turn).2 = 0 := Decidable.of_not_not h1
        rw [if_neg h1] at h
        have hT : stepT p q kind turn = stepP p q kind turn := by unfold stepT; rw [if_neg (by rw [hc]; simp), if_neg h1]
        rw [hT]
        refine ⟨h1', fun q' la' hq hl => ?_⟩
        by_cases h2 : fcmp .leq (stepP p q kind turn).1.2 bound = true
        · rw [if_pos h2] at h
          subst h
          exact ⟨fun h => absurd h (Int.lt_irrefl _), .inl ⟨rfl, hq, hl⟩⟩
        · rw [if_neg h2] at h
          refine ⟨fun _ => ?_, ?_⟩
          · rw [← fcmp_l, hl]; exact Bool.eq_false_iff.2 h2
          · exact rest_enter h0 (codeP_next hc h1' hq) (by rw [hq, hl]; exact h)
theorem rest_end {p : List (Nat × Nat)} {kind : Int} {turn : Bool} {bound : Nat} {fin : Res9} {n : Nat} {i : Int} {q : List (Nat × Nat)} {la : Nat} (h : Rest p kind turn bound fin n i q la) (hi : ¬ i < fin.1.2.1) : q.map nf2 = fin.1.1 ∧ nf la = fin.1.2.2.1 := by
  rcases h with ⟨_, h⟩ | ⟨h, _⟩
  · exact h
  · exact absurd h hi
/-- What a run without an error is. -/
theorem runT_ok {p l : List (Nat × Nat)} {kind : Int} {turn : Bool} {bound : Nat} {most : Int} (h : (runT p l kind turn bound most).2 = 0) :
    Rest p kind turn bound (runT p l kind turn bound most) most.toNat 0 l 0 ∧ 0 ≤ (runT p l kind turn bound most).1.2.1 ∧ (runT p l kind turn bound most).1.2.1 ≤ most ∧ most ≤ 200 ∧
    ((runT p l kind turn bound most).1.2.2.2 = true → 0 < (runT p l kind turn bound most).1.2.1 ∧ fcmp .leq (runT p l kind turn bound most).1.2.2.1 bound = true) ∧
    ((runT p l kind turn bound most).1.2.2.2 = false → (runT p l kind turn bound most).1.2.1 = most ∧ (0 < (runT p l kind turn bound most).1.2.1 → fcmp .leq (runT p l kind turn bound most).1.2.2.1 bound = false)) := by
  by_cases h1 : codeR p l kind bound most ≠ 0
  · exfalso
    unfold runT at h
    rw [if_pos h1] at h
    exact h1 h
  · by_cases h2 : (runP p l kind turn bound most.toNat).2 ≠ 0
    · exfalso
      unfold runT at h
      rw [if_neg h1, if_pos h2] at h
      exact h2 h
    · have hT : runT p l kind turn bound most = runP p l kind turn bound most.toNat := by unfold runT; rw [if_neg h1, if_neg h2]
      rw [hT]
      have h2' : (runP p l kind turn bound most.toNat).2 = 0 := Decidable.of_not_not h2
      have hc : codeP p l kind = 0 ∧ codeO bound most = 0 := by
        unfold codeR at h1
        split at h1
        · exact absurd (by decide) h1
        · split at h1
          · exact absurd (by decide) h1
          · rename_i k; constructor
            · exact Decidable.of_not_not fun h => k (.inl h)
            · exact Decidable.of_not_not fun h => k (.inr h)
      have hm : 0 ≤ most ∧ most ≤ 200 := by
        have := hc.2
        unfold codeO at this
        split at this
        · cases this
        · split at this
          · cases this
          · rename_i k; exact Decidable.of_not_not fun h => k (.inr h)
      have hr : rLoop p kind turn bound most.toNat (l.map nf2, 0, nf 0) = runP p l kind turn bound most.toNat := by rw [nf_zero]; rfl
      obtain ⟨f1, f2, f3, f4⟩ := rLoop_facts p kind turn bound _ _ _ hr h2'
      dsimp only at f1 f2 f3 f4
      exact ⟨rest_enter h2' hc.1 hr, f1, by omega, hm.2, f3, fun h => ⟨by have := (f4 h).1; omega, (f4 h).2⟩⟩
theorem runT_err {p l : List (Nat × Nat)} {kind : Int} {turn : Bool} {bound : Nat} {most : Int} (h : (runT p l kind turn bound most).2 ≠ 0) : (runT p l kind turn bound most).1 = ([], 0, 0, false) := by
  unfold runT at h ⊢
  split
  · rfl
  · split
    · rfl
    · rename_i k1 k2
      rw [if_neg k1, if_neg k2] at h
      exact absurd h k2
end Go.Proofs.Ytbclejclkicgnaa.K
