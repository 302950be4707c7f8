/- Which whole and exact numbers there are. -/
import Derived.Test.YtbllgmcpebifhaaGreatDoorZFa
namespace Go.Proofs.YtbllgmcpebifhaaGreatDoor.K
open Go Go.RowKit
set_option linter.all false
set_option maxRecDepth 4000
set_option maxHeartbeats 1000000

def IsW (sg : Int) (l : List Int) : Prop := (∀ x ∈ l, 0 ≤ x ∧ x ≤ 16777215) ∧ (if l = [] then sg = 0 else l.length ≤ 200 ∧ l.getD (l.length - 1) 0 ≠ 0 ∧ (sg = 1 ∨ sg = -1))
instance (sg : Int) (l : List Int) : Decidable (IsW sg l) := by unfold IsW; infer_instance

def IsD (sg e : Int) (l : List Int) : Prop := IsW sg l ∧ (-5000 ≤ e ∧ e ≤ 5000) ∧ (if sg = 0 then e = 0 else l.getD 0 0 % 2 = 1)
instance (sg e : Int) (l : List Int) : Decidable (IsD sg e l) := by unfold IsD; infer_instance
theorem IsW.pos {sg : Int} {l : List Int} (h : IsW sg l) (h0 : ¬ sg = 0) : 0 < l.length := by
  rcases Nat.eq_zero_or_pos l.length with hz | hp
  · obtain rfl := List.eq_nil_of_length_eq_zero hz
    exact absurd (by simpa using h.2) h0
  · exact hp

end Go.Proofs.YtbllgmcpebifhaaGreatDoor.K
