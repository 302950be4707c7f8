/- The reference's steps. -/
import Derived.Test.YtbclejclkicgnaaZQq
namespace Go.Proofs.Ytbclejclkicgnaa.K
open Go Go.RowKit
set_option linter.all false
set_option maxRecDepth 4000
set_option maxHeartbeats 1000000

/-- What l07Step hands back. -/
abbrev PStepS (N : Nat) (fin : (List (Nat × Nat) × Nat) × Int) : Value → List Own → List Fact → Prop :=
  PM (fun u : {u : Value × List (Nat × Nat) × Nat // IsSl u.1 ∧ (fin.2 = 0 → u.2.1.length = N ∧ u.2.1.map nf2 = fin.1.1 ∧ nf u.2.2 = fin.1.2)} => .tuple #[u.1.1, .float .f64 u.1.2.2, .int .i64 fin.2]) fun u => [.row u.1.1 47 1 u.1.2.1.length (u.1.2.1.map cx)]
theorem sCode_ne {c : (Nat × Nat) × Int} {x : Nat × Nat} (h : c.2 ≠ 0) : sCode c x = c.2 := by
  unfold sCode
  rw [lk_ne h, if_neg (fun k => h k.1)]
theorem lent0L {L Lc : List Own} {F : List Fact} {φ χ : Fact} (h : φ ∈ F) (h' : ∀ w, Owns w L → χ.holds w (fun y => keys Lc y)) : ∀ ψ, ψ ∈ [φ, χ] → ψ ∈ F ∨ (∀ w, Owns w L → ψ.holds w (fun y => keys Lc y)) := lent1L h h'
theorem l07Step_spec (vp vl : Value) (p l : List (Nat × Nat)) (kind : Int) (turn : Bool) (h1 : 2 ≤ p.length) (h2 : p.length ≤ 13) (hlast : cfin (lget p (p.length - 1)) = true) (hl : l.length ≤ 13) :
    Spec Try.prog 45 [vp, vl, .int .i64 kind, .bool turn] [] [fList 1 rCx vp p, fList 1 rCx vl l] (PStepS l.length (stepP p l kind turn)) := by
  obtain ⟨fin, hfin⟩ : ∃ r, r = stepP p l kind turn := ⟨_, rfl⟩
  rw [← hfin]
  refine enter Try.func45 Try.ntmps45 rfl (by kernel_rfl) zCon rfl fun G => ?_
  refine c_isList (v := vp) zMem fun hsp => ?_
  refine c_isList (v := vl) zMem fun hsl => ?_
  refine c_lenList (v := vp) zMem fun hlp => ?_
  refine c_lenList (v := vl) zMem fun hll => ?_
  have hf := fun a b => l01Finite_spec a b
  have hR := fun a => l06Real_spec a
  all_goals ((try refine zR3 ?_) <;> (repeat' (with_reducible first | refine And.intro ?_ ?_ | intro _)))
  refine l_appendCx rfl rfl rfl rfl rfl zMem (fun _ => .head) (by simp [maxLen]; omega) (by omega) fun v' => ?_
  refine l_isRow (v := v') (.own (.head _)) fun hsv _ => ?_
  rw [Nat.zero_add, List.nil_append]
  all_goals ((try refine zR3 ?_) <;> (repeat' (with_reducible first | refine And.intro ?_ ?_ | intro _)))
  refine c_while (ι := {s : Nat × List (Nat × Nat) × Nat // s.1 ≤ l.length ∧ s.2.1.length = l.length ∧ sLoop p l kind turn (l.length - s.1) (s.2.1.map nf2, nf s.2.2) = fin}) (κ := {u : List (Nat × Nat) × Nat // u.1.length = l.length ∧ fin = ((u.1.map nf2, nf u.2), 0)})
    (fun s => [(13, .int .i64 (s.1.1 : Int)), (12, .float .f64 s.1.2.2), (11, v'), (0, vp), (1, vl), (2, .int .i64 kind), (3, .bool turn)]) (fun s => [.row v' 47 1 l.length (s.1.2.1.map cx)]) (fun _ => [fList 1 rCx vp p, fList 1 rCx vl l]) (fun s => l.length - s.1.1)
    (fun u => [(11, v'), (12, .float .f64 u.1.2)]) (fun u => [.row v' 47 1 l.length (u.1.1.map cx)]) (fun _ => [fList 1 rCx vp p, fList 1 rCx vl l])
    ⟨(0, l, 0), Nat.zero_le _, rfl, by dsimp only; rw [nf_zero, hfin]; rfl⟩ (fun _ _ s => s.start zSub zRfl zFsub) ?_ ?_
  · rintro ⟨⟨i, lo, mv⟩, hi, hlo, hinv⟩
    dsimp only at hi hlo hinv ⊢
    by_cases hi' : i < l.length
    · obtain ⟨k, hk⟩ : ∃ k, l.length - i = k + 1 := ⟨l.length - i - 1, by omega⟩
      have hik : i = l.length - (k + 1) := by omega
      rw [hk] at hinv
      obtain ⟨x, hx⟩ : ∃ x, l[i]? = some x := ⟨_, List.getElem?_eq_getElem hi'⟩
      obtain ⟨c, hc⟩ : ∃ c, c = corr p (bif turn then lo else l) kind i 0 := ⟨_, rfl⟩
      have hc' : corr p (bif turn then (lo.map nf2, nf mv).1 else l) kind i 0 = c := by
        rw [hc]
        cases turn
        · rfl
        · exact corr_map p lo kind i 0
      all_goals ((try refine zR3 ?_) <;> (repeat' (with_reducible first | refine And.intro ?_ ?_ | intro _)))
      all_goals (first | (exfalso; omega) | skip)
      · have ht : turn = true := by assumption
        subst ht
        have hc2 : corr p lo kind i 0 = c := hc.symm
        have hspec := l07Correction_spec vp v' p lo kind i h1 h2 hlast (by omega) (by omega)
        rw [hc2] at hspec
        refine l_callLM rfl rfl zEvs rfl hspec .nil (lent0L zMem (loanT .nil (.head _))) fun u => ?_
        obtain ⟨u, hu⟩ := u
        dsimp only at hu ⊢
        all_goals ((try refine zR3 ?_) <;> (repeat' (with_reducible first | refine And.intro ?_ ?_ | intro _)))
        · have h0 : c.2 ≠ 0 := by assumption
          have hfin2 : fin.2 = c.2 := by rw [← hinv, sLoop_stop hik hc' (by rw [sCode_ne h0]; exact h0)]; exact sCode_ne h0
          refine ends_nilRow (e := 47) 1 ?_
          refine e_pm ⟨(.slice none 0 0, [], 0), ⟨_, _, _, rfl⟩, fun h => absurd (hfin2.symm.trans h) h0⟩ rfl zRes zTake ?_
          exact congrArg (fun k => Value.tuple #[.slice none 0 0, .float .f64 0, .int .i64 k]) hfin2.symm
        · have h0 : c.2 = 0 := Decidable.of_not_not (by assumption)
          have hu := hu h0
          have hsc : sCode c (lget l i) = if lk 0 (csub x c.1) = 0 ∧ ffin (csize c.1) = false then 3 else lk 0 (csub x c.1) := by rw [lget_get hx, sCode, h0]
          have hcs : csize (u.1, u.2) = csize c.1 := by
            rw [← csize_nf]
            have : nf2 (u.1, u.2) = nf2 c.1 := hu
            rw [this, csize_nf]
          have hcz : csub (x.1, x.2) (u.1, u.2) = csub x c.1 := by
            rw [← csub_r]
            have : nf2 (u.1, u.2) = nf2 c.1 := hu
            rw [this, csub_r]
          have bad : sCode c (lget l i) = 3 → fin.2 = 3 := fun h => by rw [← hinv, sLoop_stop hik hc' (by rw [h]; decide)]; exact h
          all_goals (((try refine zR3 ?_) <;> (repeat' (with_reducible first | refine And.intro ?_ ?_ | intro _))) <;> (repeat' ((first | ((with_reducible apply l_callP); exact rfl; exact zEvs; exact rfl; (with_reducible apply hf); (case hF => exact zFsub); (try any_goals (refine propId ?_; omega))) | ((with_reducible apply l_callM); exact rfl; exact rfl; exact zEvs; exact rfl; (apply l01Size_spec); (case hL => exact zTake); (case hF => exact zFsub); (with_reducible intro _); (try any_goals (refine propId ?_; omega))) | ((with_reducible apply l_callP); exact rfl; exact zEvs; exact rfl; (with_reducible apply hR); (case hF => exact zFsub); (try any_goals (refine propId ?_; omega)))) <;> ((try refine zR3 ?_) <;> (repeat' (with_reducible first | refine And.intro ?_ ?_ | intro _))))))
          · rename_i z hz
            have hz : cfin (csub x c.1) = false := by rw [← hcz]; exact (z.fin).symm.trans (by simpa using hz)
            have hfin2 := bad (by rw [hsc, lk_not hz, if_neg (fun h => by cases h.1)])
            refine ends_nilRow (e := 47) 1 ?_
            refine e_pm ⟨(.slice none 0 0, [], 0), ⟨_, _, _, rfl⟩, fun h => absurd (hfin2.symm.trans h) (by decide)⟩ rfl zRes zTake ?_
            exact congrArg (fun k => Value.tuple #[.slice none 0 0, .float .f64 0, .int .i64 k]) hfin2.symm
          · rename_i z hz y hy
            have hz : cfin (csub x c.1) = true := by rw [← hcz]; exact (z.fin).symm.trans (by simpa using hz)
            have hy : ffin (csize c.1) = false := by rw [← hcs]; exact (y.fin).symm.trans hy
            have hfin2 := bad (by rw [hsc, lk_fin hz, if_pos ⟨rfl, hy⟩])
            refine ends_nilRow (e := 47) 1 ?_
            refine e_pm ⟨(.slice none 0 0, [], 0), ⟨_, _, _, rfl⟩, fun h => absurd (hfin2.symm.trans h) (by decide)⟩ rfl zRes zTake ?_
            exact congrArg (fun k => Value.tuple #[.slice none 0 0, .float .f64 0, .int .i64 k]) hfin2.symm
          · rename_i z hz y hy y2 hg
            have hzf : cfin (csub x c.1) = true := by rw [← hcz]; exact (z.fin).symm.trans (by simpa using hz)
            have hy : ffin (csize c.1) = true := by rw [← hcs]; exact (y.fin).symm.trans hy
            have hs : sCode c (lget l i) = 0 := by rw [hsc, lk_fin hzf, if_neg (fun h => by rw [hy] at h; cases h.2)]
            rw [sLoop_go hik hc' hs] at hinv
            have hz2 : nf2 z.1 = csub x c.1 := z.eq.trans hcz
            have hset : (lo.map nf2).set i (csub (lget l i) c.1) = (lo.set i z.1).map nf2 := by rw [lget_get hx, ← hz2, List.map_set]
            have hy2 : nf y2.1 = csize c.1 := y2.2.trans hcs
            have hmm : nf y2.1 = sMove c (nf mv) := by
              unfold sMove
              have hg2 : fcmp .gtr (csize c.1) (nf mv) = true := by rw [← hg]; exact fcmp_eq ((nf_csize _).trans hy2.symm) (nf_nf _)
              rw [hg2]
              exact hy2
            have hn : l.length - (i + 1) = k := by omega
            exact e_again ⟨(i + 1, lo.set i z.1, y2.1), hi', by simp [hlo], by dsimp only; rw [hn, hmm, ← hset]; exact hinv⟩ (by dsimp only; omega) zSub rfl zFsub
          · rename_i z hz y hy y2 hg
            have hzf : cfin (csub x c.1) = true := by rw [← hcz]; exact (z.fin).symm.trans (by simpa using hz)
            have hy : ffin (csize c.1) = true := by rw [← hcs]; exact (y.fin).symm.trans hy
            have hs : sCode c (lget l i) = 0 := by rw [hsc, lk_fin hzf, if_neg (fun h => by rw [hy] at h; cases h.2)]
            rw [sLoop_go hik hc' hs] at hinv
            have hz2 : nf2 z.1 = csub x c.1 := z.eq.trans hcz
            have hset : (lo.map nf2).set i (csub (lget l i) c.1) = (lo.set i z.1).map nf2 := by rw [lget_get hx, ← hz2, List.map_set]
            have hy2 : nf y2.1 = csize c.1 := y2.2.trans hcs
            have hmm : nf mv = sMove c (nf mv) := by
              unfold sMove
              have hg2 : fcmp .gtr (csize c.1) (nf mv) = false := by rw [← hg]; exact fcmp_eq ((nf_csize _).trans hy2.symm) (nf_nf _)
              rw [hg2]
              rfl
            have hn : l.length - (i + 1) = k := by omega
            exact e_again ⟨(i + 1, lo.set i z.1, mv), hi', by simp [hlo], by dsimp only; rw [hn, hmm, ← hset]; exact hinv⟩ (by dsimp only; omega) zSub rfl zFsub
      · have ht : turn = false := by assumption
        subst ht
        have hc2 : corr p l kind i 0 = c := hc.symm
        have hspec := l07Correction_spec vp vl p l kind i h1 h2 hlast (by omega) hi'
        rw [hc2] at hspec
        refine l_callM rfl rfl zEvs rfl hspec zTake zFsub fun u => ?_
        obtain ⟨u, hu⟩ := u
        dsimp only at hu ⊢
        all_goals ((try refine zR3 ?_) <;> (repeat' (with_reducible first | refine And.intro ?_ ?_ | intro _)))
        · have h0 : c.2 ≠ 0 := by assumption
          have hfin2 : fin.2 = c.2 := by rw [← hinv, sLoop_stop hik hc' (by rw [sCode_ne h0]; exact h0)]; exact sCode_ne h0
          refine ends_nilRow (e := 47) 1 ?_
          refine e_pm ⟨(.slice none 0 0, [], 0), ⟨_, _, _, rfl⟩, fun h => absurd (hfin2.symm.trans h) h0⟩ rfl zRes zTake ?_
          exact congrArg (fun k => Value.tuple #[.slice none 0 0, .float .f64 0, .int .i64 k]) hfin2.symm
        · have h0 : c.2 = 0 := Decidable.of_not_not (by assumption)
          have hu := hu h0
          have hsc : sCode c (lget l i) = if lk 0 (csub x c.1) = 0 ∧ ffin (csize c.1) = false then 3 else lk 0 (csub x c.1) := by rw [lget_get hx, sCode, h0]
          have hcs : csize (u.1, u.2) = csize c.1 := by
            rw [← csize_nf]
            have : nf2 (u.1, u.2) = nf2 c.1 := hu
            rw [this, csize_nf]
          have hcz : csub (x.1, x.2) (u.1, u.2) = csub x c.1 := by
            rw [← csub_r]
            have : nf2 (u.1, u.2) = nf2 c.1 := hu
            rw [this, csub_r]
          have bad : sCode c (lget l i) = 3 → fin.2 = 3 := fun h => by rw [← hinv, sLoop_stop hik hc' (by rw [h]; decide)]; exact h
          all_goals (((try refine zR3 ?_) <;> (repeat' (with_reducible first | refine And.intro ?_ ?_ | intro _))) <;> (repeat' ((first | ((with_reducible apply l_callP); exact rfl; exact zEvs; exact rfl; (with_reducible apply hf); (case hF => exact zFsub); (try any_goals (refine propId ?_; omega))) | ((with_reducible apply l_callM); exact rfl; exact rfl; exact zEvs; exact rfl; (apply l01Size_spec); (case hL => exact zTake); (case hF => exact zFsub); (with_reducible intro _); (try any_goals (refine propId ?_; omega))) | ((with_reducible apply l_callP); exact rfl; exact zEvs; exact rfl; (with_reducible apply hR); (case hF => exact zFsub); (try any_goals (refine propId ?_; omega)))) <;> ((try refine zR3 ?_) <;> (repeat' (with_reducible first | refine And.intro ?_ ?_ | intro _))))))
          · rename_i z hz
            have hz : cfin (csub x c.1) = false := by rw [← hcz]; exact (z.fin).symm.trans (by simpa using hz)
            have hfin2 := bad (by rw [hsc, lk_not hz, if_neg (fun h => by cases h.1)])
            refine ends_nilRow (e := 47) 1 ?_
            refine e_pm ⟨(.slice none 0 0, [], 0), ⟨_, _, _, rfl⟩, fun h => absurd (hfin2.symm.trans h) (by decide)⟩ rfl zRes zTake ?_
            exact congrArg (fun k => Value.tuple #[.slice none 0 0, .float .f64 0, .int .i64 k]) hfin2.symm
          · rename_i z hz y hy
            have hz : cfin (csub x c.1) = true := by rw [← hcz]; exact (z.fin).symm.trans (by simpa using hz)
            have hy : ffin (csize c.1) = false := by rw [← hcs]; exact (y.fin).symm.trans hy
            have hfin2 := bad (by rw [hsc, lk_fin hz, if_pos ⟨rfl, hy⟩])
            refine ends_nilRow (e := 47) 1 ?_
            refine e_pm ⟨(.slice none 0 0, [], 0), ⟨_, _, _, rfl⟩, fun h => absurd (hfin2.symm.trans h) (by decide)⟩ rfl zRes zTake ?_
            exact congrArg (fun k => Value.tuple #[.slice none 0 0, .float .f64 0, .int .i64 k]) hfin2.symm
          · rename_i z hz y hy y2 hg
            have hzf : cfin (csub x c.1) = true := by rw [← hcz]; exact (z.fin).symm.trans (by simpa using hz)
            have hy : ffin (csize c.1) = true := by rw [← hcs]; exact (y.fin).symm.trans hy
            have hs : sCode c (lget l i) = 0 := by rw [hsc, lk_fin hzf, if_neg (fun h => by rw [hy] at h; cases h.2)]
            rw [sLoop_go hik hc' hs] at hinv
            have hz2 : nf2 z.1 = csub x c.1 := z.eq.trans hcz
            have hset : (lo.map nf2).set i (csub (lget l i) c.1) = (lo.set i z.1).map nf2 := by rw [lget_get hx, ← hz2, List.map_set]
            have hy2 : nf y2.1 = csize c.1 := y2.2.trans hcs
            have hmm : nf y2.1 = sMove c (nf mv) := by
              unfold sMove
              have hg2 : fcmp .gtr (csize c.1) (nf mv) = true := by rw [← hg]; exact fcmp_eq ((nf_csize _).trans hy2.symm) (nf_nf _)
              rw [hg2]
              exact hy2
            have hn : l.length - (i + 1) = k := by omega
            exact e_again ⟨(i + 1, lo.set i z.1, y2.1), hi', by simp [hlo], by dsimp only; rw [hn, hmm, ← hset]; exact hinv⟩ (by dsimp only; omega) zSub rfl zFsub
          · rename_i z hz y hy y2 hg
            have hzf : cfin (csub x c.1) = true := by rw [← hcz]; exact (z.fin).symm.trans (by simpa using hz)
            have hy : ffin (csize c.1) = true := by rw [← hcs]; exact (y.fin).symm.trans hy
            have hs : sCode c (lget l i) = 0 := by rw [hsc, lk_fin hzf, if_neg (fun h => by rw [hy] at h; cases h.2)]
            rw [sLoop_go hik hc' hs] at hinv
            have hz2 : nf2 z.1 = csub x c.1 := z.eq.trans hcz
            have hset : (lo.map nf2).set i (csub (lget l i) c.1) = (lo.set i z.1).map nf2 := by rw [lget_get hx, ← hz2, List.map_set]
            have hy2 : nf y2.1 = csize c.1 := y2.2.trans hcs
            have hmm : nf mv = sMove c (nf mv) := by
              unfold sMove
              have hg2 : fcmp .gtr (csize c.1) (nf mv) = false := by rw [← hg]; exact fcmp_eq ((nf_csize _).trans hy2.symm) (nf_nf _)
              rw [hg2]
              rfl
            have hn : l.length - (i + 1) = k := by omega
            exact e_again ⟨(i + 1, lo.set i z.1, mv), hi', by simp [hlo], by dsimp only; rw [hn, hmm, ← hset]; exact hinv⟩ (by dsimp only; omega) zSub rfl zFsub
    · all_goals ((try refine zR3 ?_) <;> (repeat' (with_reducible first | refine And.intro ?_ ?_ | intro _)))
      all_goals (first | (exfalso; omega) | skip)
      have h0 : l.length - i = 0 := by omega
      rw [h0, sLoop] at hinv
      exact e_out ⟨(lo, mv), hlo, hinv.symm⟩ zSub rfl zFsub
  · rintro ⟨⟨lo, mv⟩, hlo, hres⟩
    dsimp only at hlo hres ⊢
    subst hres
    all_goals ((try refine zR3 ?_) <;> (repeat' (with_reducible first | refine And.intro ?_ ?_ | intro _)))
    rw [← hlo]
    exact e_pm ⟨(v', lo, mv), hsv, fun _ => ⟨rfl, rfl, rfl⟩⟩ rfl zRes zTake rfl
end Go.Proofs.Ytbclejclkicgnaa.K
