/- Large numbers: how many bits; a whole number out of a value. -/
import Derived.Test.YtbllgmcpebifhaaGreatDoorZGe
import Derived.Test.YtbllgmcpebifhaaGreatDoorZMa
import Derived.Test.YtbllgmcpebifhaaGreatDoorZFa
import Derived.Test.YtbllgmcpebifhaaGreatDoorZShelf
namespace Go.Proofs.YtbllgmcpebifhaaGreatDoor.K
open Go Go.RowKit
set_option linter.all false
set_option maxRecDepth 4000
set_option maxHeartbeats 1000000
set_option exponentiation.threshold 8000

/-- A call that is handed all that is owned. -/
theorem l_callA {G : Ctx} {n : Nat} {P : Program} {ops : Array Oper} {Q : Post} {rest : List Oper} {m : Regs} {L : List Own} {F : List Fact} {d : Nat} {ty : TypeId} {pos : String} {af : Array Edge} {g : Option (Nat × Bool)} {f : FuncId} {xs : List Operand} {vs : List Value} {ts : Array TypeId} {Fc : List Fact} {post : Value → List Own → List Fact → Prop}
    (hw : wantG ops m g = some true) (hv : Evs m xs vs) (hd : Nat.blt d n = true) (hs : Spec P f vs L Fc post) (hF : ∀ φ, φ ∈ Fc → φ ∈ F)
    (h : ∀ v L' F', post v L' F' → RunL G n P ops Q rest ((d, v) :: m) L' (F' ++ F)) :
    RunL G n P ops Q (⟨some d, .call ⟨.value (.func f), xs.toArray, ts⟩, ty, pos, af, g⟩ :: rest) m L F :=
  l_call hw hv hd hs (takeAll L) hF fun v L' F' hp => by rw [List.append_nil]; exact h v L' F' hp

section
variable {G : Ctx} {n : Nat} {P : Program} {ops : Array Oper} {Q : Post} {rest : List Oper} {m : Regs} {L : List Own} {F : List Fact} {d : Nat} {ty : TypeId} {pos : String} {af : Array Edge} {g : Option (Nat × Bool)} {f : FuncId} {xs : List Operand} {vs : List Value} {ts : Array TypeId} {Fc : List Fact} {Lc Lr : List Own} {u : Value}
theorem l_callVA (hw : wantG ops m g = some true) (hv : Evs m xs vs) (hd : Nat.blt d n = true) (hs : Spec P f vs L Fc (PVal u L)) (hF : ∀ φ, φ ∈ Fc → φ ∈ F) (h : RunL G n P ops Q rest ((d, u) :: m) L F) :
    RunL G n P ops Q (⟨some d, .call ⟨.value (.func f), xs.toArray, ts⟩, ty, pos, af, g⟩ :: rest) m L F :=
  l_callA hw hv hd hs hF fun v L' F' ⟨h1, h2, h3⟩ => by subst h1; subst h2; subst h3; exact h
end

end Go.Proofs.YtbllgmcpebifhaaGreatDoor.K
