/- Lists of points: finite ones, the laws' comparisons. -/
import Derived.Test.YtbllgmcpebifhaaGreatDoorZSa

section
namespace Go.Proofs.YtbllgmcpebifhaaGreatDoor.K
open Go Go.RowKit Ieee
set_option linter.all false
set_option maxRecDepth 60000
set_option maxHeartbeats 1000000

theorem big_spec (vc : Value) (code : List Int) : Spec Tryz.prog 8 [vc] [] [fCode vc code] (Gives (.bool (decide ((4096 : Int) < (code.length : Int))))) := by
  refine enter Tryz.func8 Tryz.ntmps8 rfl (by kernel_rfl) zCon rfl fun G => ?_
  refine c_isList (v := vc) zMem fun hsa => ?_
  all_goals ((try refine zR3 ?_) <;> (repeat' (with_reducible first | refine And.intro ?_ ?_ | intro _)))
  (refine e_gives rfl zRes ?_; first | rfl | (simp [retVal, *]; done) | (simp_all [retVal]; done) | (simp only [retVal]))
end Go.Proofs.YtbllgmcpebifhaaGreatDoor.K
end

section
/- Clusters, in plain terms: the search that both sides make. -/
namespace Go.Proofs.YtbllgmcpebifhaaGreatDoor.K
open Go Go.RowKit
set_option linter.all false

/-- Behind a step: what is met is what was, and the queue; the queue has each one once, and none that was met before. -/
structure Inv (n : Nat) (m0 : Nat → Bool) (s : List Bool × List Nat) : Prop where
  len : s.1.length = n
  lt : ∀ x ∈ s.2, x < n
  nodup : s.2.Nodup
  new : ∀ x ∈ s.2, m0 x = false
  met : ∀ x, x < n → (s.1.getD x true = true ↔ m0 x = true ∨ x ∈ s.2)
theorem getD_set (l : List Bool) (i j : Nat) (b : Bool) (hi : i < l.length) : (l.set i b).getD j true = if j = i then b else l.getD j true := by
  rw [List.getD_eq_getElem?_getD, List.getD_eq_getElem?_getD, List.getElem?_set]
  by_cases h : i = j
  · subst h; simp [hi]
  · rw [if_neg h, if_neg (fun k => h k.symm)]
theorem Inv.put {n : Nat} {m0 : Nat → Bool} {s : List Bool × List Nat} (h : Inv n m0 s) {k : Nat} (hk : k < n) (hn : s.1.getD k true = false) : Inv n m0 (s.1.set k true, s.2 ++ [k]) := by
  have hnm : ¬ (m0 k = true ∨ k ∈ s.2) := fun hh => by rw [(h.met k hk).2 hh] at hn; cases hn
  refine ⟨by simp [h.len], fun x hx => ?_, ?_, fun x hx => ?_, fun x hx => ?_⟩
  · rcases List.mem_append.1 hx with hx | hx
    · exact h.lt x hx
    · rw [List.mem_singleton.1 hx]; exact hk
  · rw [List.nodup_append]
    refine ⟨h.nodup, by simp, fun a ha b hb => ?_⟩
    rw [List.mem_singleton.1 hb]
    rintro rfl
    exact hnm (.inr ha)
  · rcases List.mem_append.1 hx with hx | hx
    · exact h.new x hx
    · rw [List.mem_singleton.1 hx]
      cases hm : m0 k with
      | true => exact absurd (.inl hm) hnm
      | false => rfl
  · dsimp only
    rw [getD_set _ _ _ _ (by rw [h.len]; exact hk)]
    by_cases hxk : x = k
    · subst hxk; simp
    · rw [if_neg hxk, h.met x hx]
      simp [hxk]
end Go.Proofs.YtbllgmcpebifhaaGreatDoor.K
end

section
/- The way between two numbers has one length. -/
namespace Go.Proofs.YtbllgmcpebifhaaGreatDoor.K
open Go Go.RowKit Ieee
set_option linter.all false
set_option maxRecDepth 10000

end Go.Proofs.YtbllgmcpebifhaaGreatDoor.K
end

section
/- Whether a list has a number. -/
namespace Go.Proofs.YtbllgmcpebifhaaGreatDoor.K
open Go Go.RowKit
set_option linter.all false
set_option maxRecDepth 4000
set_option maxHeartbeats 1000000

end Go.Proofs.YtbllgmcpebifhaaGreatDoor.K
end

section
/- Rounding to the nearest whole number, ties to even. -/
namespace Go.Proofs.YtbllgmcpebifhaaGreatDoor.K
open Go Go.RowKit Ieee
set_option linter.all false

section
variable {G : Ctx} {n : Nat} {ops : Array Oper} {Q : Post} {rest : List Oper} {m : Regs} {L : List Own} {F : List Fact} {d : Nat} {ty : TypeId} {pos : String} {af : Array Edge} {g : Option (Nat × Bool)}
end
end Go.Proofs.YtbllgmcpebifhaaGreatDoor.K
end
