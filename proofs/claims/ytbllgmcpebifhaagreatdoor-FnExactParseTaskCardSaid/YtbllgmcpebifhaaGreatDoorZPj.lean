/- The law of ParseTask: the walk. -/
import Derived.Test.YtbllgmcpebifhaaGreatDoorZPh
import Derived.Test.YtbllgmcpebifhaaGreatDoorZNk

section
namespace Go.Proofs.YtbllgmcpebifhaaGreatDoor.K
open Go Go.RowKit Go.Lib
set_option linter.all false

/-- What both readings of tasks answer. -/
def Rel3 (t : List UInt8) (k : Int) (zs ys : List (Nat × Nat)) (z : Nat × Nat) (code : Int) : Prop := (code = 0 ∧ PTask t k zs ys z) ∨ (code = 6 ∧ (k = 0 ∧ zs = [] ∧ ys = [] ∧ z = (0, 0)) ∧ ∀ k zs ys z, ¬ PTask t k zs ys z)
theorem Rel3.uniq {t : List UInt8} {k l : Int} {zs ys zs' ys' : List (Nat × Nat)} {z z' : Nat × Nat} {c d : Int} (h : Rel3 t k zs ys z c) (h' : Rel3 t l zs' ys' z' d) : k = l ∧ zs = zs' ∧ ys = ys' ∧ z = z' ∧ c = d := by
  rcases h with ⟨rfl, h1⟩ | ⟨rfl, ⟨rfl, rfl, rfl, rfl⟩, h1⟩
  · rcases h' with ⟨rfl, h2⟩ | ⟨rfl, _, h2⟩
    · obtain ⟨rfl, rfl, rfl, rfl⟩ := h1.uniq h2
      exact ⟨rfl, rfl, rfl, rfl, rfl⟩
    · exact absurd h1 (h2 _ _ _ _)
  · rcases h' with ⟨rfl, h2⟩ | ⟨rfl, ⟨rfl, rfl, rfl, rfl⟩, h2⟩
    · exact absurd h2 (h1 _ _ _ _)
    · exact ⟨rfl, rfl, rfl, rfl, rfl⟩
theorem Rel3.fin {t : List UInt8} {k : Int} {zs ys : List (Nat × Nat)} {z : Nat × Nat} {c : Int} (h : Rel3 t k zs ys z c) : (FinX zs ∧ zs.length ≤ 100) ∧ (FinX ys ∧ ys.length ≤ 100) ∧ ∃ a, FinZ z a ∧ (a.1 = 0 → z.1 = 0) ∧ (a.2 = 0 → z.2 = 0) := by
  have hn : FinX [] ∧ ([] : List (Nat × Nat)).length ≤ 100 := ⟨fun z hz => (by cases hz), Nat.zero_le _⟩
  have h0 : ∃ a, FinZ (0, 0) a ∧ (a.1 = 0 → ((0, 0) : Nat × Nat).1 = 0) ∧ (a.2 = 0 → ((0, 0) : Nat × Nat).2 = 0) := ⟨(0, 0), ⟨fv_zero, fv_zero⟩, fun _ => rfl, fun _ => rfl⟩
  have hp : ∀ {w : List UInt8} {xs : List (Nat × Nat)}, PPol w xs → FinX xs ∧ xs.length ≤ 100 := fun hP => ⟨Rel2.fin (.inl ⟨rfl, hP⟩), by have := hP.2.2.2.1; omega⟩
  rcases h with ⟨rfl, _, w, hw, ⟨_, _, rfl, rfl⟩ | ⟨u, _, _, ⟨_, rfl, hz⟩ | ⟨_, hy, rfl⟩⟩⟩ | ⟨rfl, ⟨rfl, rfl, rfl, rfl⟩, _⟩
  · exact ⟨hp hw, hn, h0⟩
  · refine ⟨hp hw, hn, ?_⟩
    obtain ⟨x, y, _, ⟨_, v, e, a, i1, i2, i3, i4⟩, ⟨_, w, f, b, i5, i6, i7, i8⟩⟩ := hz
    exact ⟨(a, b), ⟨i2, i6⟩, fun ha => i4 (by dsimp only at ha; subst ha; exact i3.zero'), fun hb => i8 (by dsimp only at hb; subst hb; exact i7.zero')⟩
  · exact ⟨hp hw, hp hy, h0⟩
  · exact ⟨hn, hn, h0⟩
end Go.Proofs.YtbllgmcpebifhaaGreatDoor.K
end

section
/- The law of ParseTask: the walk itself. -/
namespace Go.Proofs.YtbllgmcpebifhaaGreatDoor.K
open Go Go.RowKit Go.Lib
set_option linter.all false
set_option maxRecDepth 4000
set_option maxHeartbeats 1000000

theorem lent4 {L : List Own} {F : List Fact} {φ χ ρ σ : Fact} (h1 : ∀ w, Owns w L → φ.holds w (fun _ => False)) (h2 : χ ∈ F) (h3 : ∀ w, Owns w L → ρ.holds w (fun _ => False)) (h4 : σ ∈ F) : ∀ ψ, ψ ∈ [φ, χ, ρ, σ] → ψ ∈ F ∨ (∀ w, Owns w L → ψ.holds w (fun _ => False)) := fun ψ hψ => by
  simp only [List.mem_cons, List.not_mem_nil, or_false] at hψ
  rcases hψ with rfl | rfl | rfl | rfl
  · exact .inr h1
  · exact .inl h2
  · exact .inr h3
  · exact .inl h4
theorem lawTask_spec (t : List UInt8) : Spec Tryz.prog 6 [.string ⟨t.toArray⟩] [] [fMax, fSyn, fRng, fTab, fTz] (Gives (.bool true)) := by
  refine enter Tryz.func6 Tryz.ntmps6 rfl (by kernel_rfl) zCon rfl fun G => ?_
  all_goals ((try refine zR2 ?_) <;> (repeat' (with_reducible first | refine And.intro ?_ ?_ | intro _)))
  · (refine e_gives rfl zRes ?_; first | rfl | (simp [retVal, *]; done) | (simp_all [retVal]; done) | (simp only [retVal]))
  have hl : t.length ≤ 2000000 := by omega
  refine l_call rfl zEvs rfl (specTask_spec t hl) zTake zFsub ?_
  rintro _ L' F' ⟨k, a1, a2, zs, ys, z, code, rfl, rfl, rfl, hrel⟩
  have hrel : Rel3 t k zs ys z code := hrel
  refine l_isList (v := a1) (.head _) fun hsa1 => ?_
  refine l_isList (v := a2) (.tail _ (.head _)) fun hsa2 => ?_
  obtain ⟨⟨f1, g1⟩, ⟨f2, g2⟩, f3⟩ := hrel.fin
  all_goals ((try refine zR2 ?_) <;> (repeat' (with_reducible first | refine And.intro ?_ ?_ | intro _)))
  refine l_call rfl zEvs rfl (implTask_spec t hl) zTake zFsub ?_
  rintro _ L' F' ⟨k', b1, b2, zs', ys', z', code', rfl, rfl, rfl, hrel'⟩
  obtain ⟨rfl, rfl, rfl, rfl, rfl⟩ := hrel.uniq hrel'
  refine l_isRow (v := b1) (.own (.head _)) fun hsb1 _ => ?_
  refine l_isRow (v := b2) (.own (.tail _ (.head _))) fun hsb2 _ => ?_
  all_goals ((try refine zR2 ?_) <;> (repeat' (with_reducible first | refine And.intro ?_ ?_ | intro _)))
  refine l_callH rfl zEvs rfl (eqTask_spec k b1 b2 a1 a2 zs ys z f1 f2 g1 g2 f3) (lent4 (loanCx (.tail _ (.head _))) zMem (loanCx (.tail _ (.tail _ (.head _)))) zMem) ?_
  all_goals ((try refine zR2 ?_) <;> (repeat' (with_reducible first | refine And.intro ?_ ?_ | intro _)))
  · exact absurd rfl (by assumption : code ≠ code)
  refine l_call rfl zEvs rfl (markTask_spec k b1 b2 zs ys z g1 g2) zTake zFsub ?_
  rintro _ L' F' ⟨rfl, rfl, rfl⟩
  have hheld := heldTask_spec k b1 b2 zs.length ys.length z g1 g2
  have hm1 := mqx_len 1 zs.length
  have hm2 := mqx_len (1 + zs.length) ys.length
  all_goals ((try refine zR2 ?_) <;> (repeat' (with_reducible first | refine And.intro ?_ ?_ | intro _)))
  refine l_callH rfl zEvs rfl hheld (lentBB (loanCx (.head _)) (loanCx (.tail _ (.head _)))) ?_
  all_goals ((try refine zR2 ?_) <;> (repeat' (with_reducible first | refine And.intro ?_ ?_ | intro _)))
  all_goals (first | (exfalso; omega) | skip)
  refine l_call rfl zEvs rfl (implTask_spec t hl) zTake zFsub ?_
  rintro _ L' F' ⟨k', c1, c2, zs', ys', z', code', rfl, rfl, rfl, hrel'⟩
  obtain ⟨rfl, rfl, rfl, rfl, rfl⟩ := hrel.uniq hrel'
  refine l_isRow (v := c1) (.own (.head _)) fun hsc1 _ => ?_
  refine l_isRow (v := c2) (.own (.tail _ (.head _))) fun hsc2 _ => ?_
  all_goals ((try refine zR2 ?_) <;> (repeat' (with_reducible first | refine And.intro ?_ ?_ | intro _)))
  refine l_callH rfl zEvs rfl (eqTask_spec k c1 c2 a1 a2 zs ys z f1 f2 g1 g2 f3) (lent4 (loanCx (.tail _ (.head _))) zMem (loanCx (.tail _ (.tail _ (.head _)))) zMem) ?_
  all_goals ((try refine zR2 ?_) <;> (repeat' (with_reducible first | refine And.intro ?_ ?_ | intro _)))
  · exact absurd rfl (by assumption : code ≠ code)
  refine l_callH rfl zEvs rfl hheld (lentBB (loanCx (by first | exact .tail _ (.tail _ (.tail _ (.head _))))) (loanCx (by first | exact .tail _ (.tail _ (.tail _ (.tail _ (.head _))))))) ?_
  all_goals ((try refine zR2 ?_) <;> (repeat' (with_reducible first | refine And.intro ?_ ?_ | intro _)))
  all_goals (first | (exfalso; omega) | skip)
  (refine e_gives rfl zRes ?_; first | rfl | (simp [retVal, *]; done) | (simp_all [retVal]; done) | (simp only [retVal]))
end Go.Proofs.YtbllgmcpebifhaaGreatDoor.K
end
