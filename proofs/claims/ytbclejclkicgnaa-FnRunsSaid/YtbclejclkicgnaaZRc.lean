/- The draws: a run. -/
import Derived.Test.YtbclejclkicgnaaZRb
namespace Go.Proofs.Ytbclejclkicgnaa.K
open Go Go.RowKit
set_option linter.all false
set_option maxRecDepth 4000
set_option maxHeartbeats 1000000

section
variable {G : Ctx} {n : Nat} {P : Program} {ops : Array Oper} {Q : Post} {rest : List Oper} {m : Regs} {L L' : List Own} {F : List Fact} {d : Nat} {ty : TypeId} {pos : String} {af : Array Edge} {g : Option (Nat × Bool)} {v : Value}
theorem l_loadRawF {t : TypeId} {D : TypeDesc} {x : Operand} {k : Nat} {l : List Value} [u : Und P t D] (hw : wantG ops m g = some true) (hx : ev m x = some (elemPtr v k)) (hF : fList 1 rRaw v l ∈ F) (hD : aggD D = false) (ha : ∀ y ∈ l, ∃ b : Nat, y = .float .f64 b) (hk : k < l.length) (hd : Nat.blt d n = true)
    (h : ∀ b : Nat, RunL G n P ops Q rest ((d, .float .f64 b) :: m) L F) : RunL G n P ops Q (⟨some d, .load t x, ty, pos, af, g⟩ :: rest) m L F := by
  obtain ⟨b, hb⟩ := ha _ (List.getElem_mem hk)
  exact l_loadRaw hw hx hF hD ((List.getElem?_eq_getElem hk).trans (congrArg some hb)) hd (h b)
end
theorem DrawRunTogether_spec (vc : Value) (code : List Int) (hb : Bytes code) (hl : code.length ≤ 100000) : Spec Try.prog 5 [vc] [] [fCode vc code]
    (PMF (fun i : (VL × VL) × {k : Int // InK k} × Bool × Nat × {k : Int // InI k} => .tuple #[i.1.1.1, i.1.2.1, .int .i64 i.2.1.1, .bool i.2.2.1, .float .f64 i.2.2.2.1, .int .i64 i.2.2.2.2.1]) (fun _ => []) fun i => [fCx i.1.1, fCx i.1.2]) := by
  refine enter Try.func5 Try.ntmps5 rfl (by kernel_rfl) zCon rfl fun G => ?_
  have hFr := l01From_spec vc code hb hl
  have hN := fun b => l01Next_spec b vc code hb hl
  have hK := fun b => l07DrawKind_spec b vc code hb hl
  all_goals (((try refine zR3 ?_) <;> (repeat' (with_reducible first | refine And.intro ?_ ?_ | intro _))) <;> (repeat' ((first | ((with_reducible apply l_callM); exact rfl; exact rfl; exact zEvs; exact rfl; (apply hFr); (case hL => exact zTake); (case hF => exact zFsub); (try any_goals (refine propId ?_; omega)); (with_reducible intro _))) <;> ((try refine zR3 ?_) <;> (repeat' (with_reducible first | refine And.intro ?_ ?_ | intro _))))))
  rename_i u
  obtain ⟨b, s⟩ := u
  dsimp only
  refine l_callMF rfl rfl zEvs rfl (l07Draw_spec b vc code hb hl s) zTake zFsub fun u => ?_
  obtain ⟨⟨⟨vp, p⟩, ⟨vl, l⟩⟩, s2⟩ := u
  dsimp only
  all_goals ((try refine zR3 ?_) <;> (repeat' (with_reducible first | refine And.intro ?_ ?_ | intro _)))
  refine l_litN rfl rfl zEvs rfl rfl rfl (by simp [Value.cells]) rfl fun vt => ?_
  refine l_frzRaw .head ?_
  all_goals ((try refine zR3 ?_) <;> (repeat' (with_reducible first | refine And.intro ?_ ?_ | intro _)))
  refine l_callM rfl rfl zEvs rfl (hN b _ 6 (by omega)) zTake zFsub fun i => ?_
  obtain ⟨⟨x, hx0, hx1, hx2⟩, s1⟩ := i
  dsimp only
  have hx3 := hx2 (by omega)
  obtain ⟨k, hk⟩ : ∃ k : Nat, x = (k : Int) := ⟨x.toNat, by omega⟩
  subst hk
  all_goals ((try refine zR3 ?_) <;> (repeat' (with_reducible first | refine And.intro ?_ ?_ | intro _)))
  refine l_loadRawF rfl rfl zMem rfl (by simp) (by simp; omega) rfl fun bd => ?_
  all_goals (((try refine zR3 ?_) <;> (repeat' (with_reducible first | refine And.intro ?_ ?_ | intro _))) <;> (repeat' ((first | ((with_reducible apply l_callM); exact rfl; exact rfl; exact zEvs; exact rfl; (apply (hN b)); (case hL => exact zTake); (case hF => exact zFsub); (try any_goals (refine propId ?_; omega)); (with_reducible intro _)) | ((with_reducible apply l_callM); exact rfl; exact rfl; exact zEvs; exact rfl; (apply (hK b)); (case hL => exact zTake); (case hF => exact zFsub); (try any_goals (refine propId ?_; omega)); (with_reducible intro _)) | (refine l_pickI InI b vc code hb hl rfl rfl zEvs rfl rfl rfl (by repeat (first | exact PL.nil | refine PL.cons (by first | exact wrap_in _ | exact (show _ ∧ _ from by decide) | exact (show _ ∧ _ from by omega)) ?_)) rfl rfl (fun _ => rfl) (fun _ => rfl) (fun _ => zEvs) rfl zTake zMem fun _ _ => ?_)) <;> ((try refine zR3 ?_) <;> (repeat' (with_reducible first | refine And.intro ?_ ?_ | intro _))))))
  rename_i kd nx _ mo
  exact e_pmF (((vp, p), (vl, l)), kd.1, _, bd, mo.1) rfl zRes .nil zFsub rfl
end Go.Proofs.Ytbclejclkicgnaa.K
