/- Whole numbers: their texts' lengths; copies; a whole number made. -/
import Derived.Test.YtbllgmcpebifhaaGreatDoorZGg
import Derived.Test.YtbllgmcpebifhaaGreatDoorZFa
namespace Go.Proofs.YtbllgmcpebifhaaGreatDoor.K
open Go Go.RowKit Go.Lib
set_option linter.all false
set_option maxRecDepth 4000
set_option maxHeartbeats 1000000

theorem l01Own_spec (v : Value) (l : List Int) (hl : l.length ≤ 1048576) : Spec Tryz.prog 238 [v] [] [fList 1 (rInt .i64) v l] (fun r L' F' => L' = [.row r 2 1 l.length (l.map (Value.int .i64))] ∧ F' = []) := by
  refine enter Tryz.func238 Tryz.ntmps238 rfl (by kernel_rfl) zCon rfl fun G => ?_
  all_goals ((try refine zS ?_) <;> (repeat' (with_reducible first | refine And.intro ?_ ?_ | intro _)))
  refine l_appendInts rfl rfl rfl rfl rfl zMem (fun _ => .head) (by simp [maxLen]; omega) (by omega) fun r => ?_
  all_goals ((try refine zR ?_) <;> (repeat' (with_reducible first | refine And.intro ?_ ?_ | intro _)))
  exact e_resT rfl zRes (.cons .head .nil) fsub_nil ⟨by simp [retVal], rfl⟩

def wText (sg : Int) (l : List Int) : List UInt8 := (if sg < 0 then [45] else []) ++ decDigits (vl 16777216 l)

theorem IsW.inR {sg : Int} {l : List Int} (h : IsW sg l) : InR 16777216 l := fun x hx => by have := h.1 x hx; omega
theorem IsW.trim {sg : Int} {l : List Int} (h : IsW sg l) : Trim l := by
  by_cases h0 : l = []
  · exact .inl h0
  · have := h.2
    rw [if_neg h0] at this
    have hl : l.length - 1 < l.length := by have := List.length_pos_iff.2 h0; omega
    refine .inr ⟨hl, ?_⟩
    have h2 := this.2.1
    rwa [List.getD_eq_getElem?_getD, List.getElem?_eq_getElem hl] at h2
theorem vl_pow {l : List Int} (h : InR 16777216 l) : vl 16777216 l < 10 ^ (24 * l.length + 1) := by
  have h1 := vl_lt _ _ h
  have h2 : 16777216 ^ l.length = 2 ^ (24 * l.length) := by rw [show (16777216 : Nat) = 2 ^ 24 by decide, ← Nat.pow_mul]
  rw [h2] at h1
  exact Nat.lt_of_lt_of_le h1 (Nat.le_trans (Nat.pow_le_pow_left (by omega) _) (Nat.pow_le_pow_right (by omega) (by omega)))
theorem wText_len {l : List Int} (h : InR 16777216 l) (hl : l.length ≤ 200) : (dec0 (vl 16777216 l)).length ≤ 4801 :=
  Nat.le_trans (dec0_len_le _ _ (by omega) (vl_pow h)) (by omega)
theorem IsW.len {sg : Int} {l : List Int} (h : IsW sg l) : l.length ≤ 200 := by
  by_cases h0 : l = []
  · subst h0; simp
  · have := h.2
    rw [if_neg h0] at this
    exact this.1

theorem wText_le {sg : Int} {l : List Int} (hw : IsW sg l) : (wText sg l).length ≤ 4802 := by
  have h1 := dec_len_le _ _ (by omega) (vl_pow hw.inR)
  have h2 := hw.len
  unfold wText
  rw [List.length_append]
  split <;> simp <;> omega

theorem l02Make_spec (sg : Int) (v : Value) (l : List Int) (hl : l.length ≤ 1000) (hT : Trim l) : Spec Tryz.prog 188 [.int .i64 sg, v] [] [fList 1 (rInt .i64) v l] (fun r L' F' => ∃ v', r = vWhole (if l = [] then 0 else sg) v' ∧ L' = [] ∧ F' = [fList 1 (rInt .i64) v' l]) := by
  refine enter Tryz.func188 Tryz.ntmps188 rfl (by kernel_rfl) zCon rfl fun G => ?_
  refine c_isList zMem fun hsl => ?_
  all_goals ((try refine zR ?_) <;> (repeat' (with_reducible first | refine And.intro ?_ ?_ | intro _)))
  rename_i b _
  refine c_while (ι := Unit) (κ := Unit) (fun _ => [(5, .int .i64 (l.length : Int)), (4, .pointer (some ⟨b, 0, none⟩)), (1, v), (0, .int .i64 sg)]) (fun _ => [.box b [.int .i64 0, .slice none 0 0] 46]) (fun _ => [fList 1 (rInt .i64) v l]) (fun _ => 0)
    (fun _ => [(5, .int .i64 (l.length : Int)), (4, .pointer (some ⟨b, 0, none⟩)), (1, v), (0, .int .i64 sg)]) (fun _ => [.box b [.int .i64 0, .slice none 0 0] 46]) (fun _ => [fList 1 (rInt .i64) v l]) () (fun _ _ s => s.start zSub zRfl zFsub) ?_ ?_
  · intro _
    all_goals ((try refine zR ?_) <;> (repeat' (with_reducible first | refine And.intro ?_ ?_ | intro _)))
    · exfalso
      rcases hT with hT | ⟨h1, h2⟩
      · have h0 : 0 < (l.length : Int) := by assumption
        rw [hT] at h0; simp at h0
      · exact h2 (by assumption)
    all_goals exact e_out () zSub rfl (fun _ h => h)
  · intro _
    all_goals ((try refine zR ?_) <;> (repeat' (with_reducible first | refine And.intro ?_ ?_ | intro _)))
    · have hl0 : l = [] := List.eq_nil_of_length_eq_zero (by omega)
      subst hl0
      refine ends_nilInts .i64 ?_
      exact e_resT rfl zRes .nil (fsub_cons (.head _) fsub_nil) ⟨_, by simp only [retVal, if_true], rfl, rfl⟩
    · rename_i hn0 v2
      rw [List.take_length]
      refine l_call rfl zEvs rfl (l01Own_spec v2 l (by omega)) zTake zFsub ?_
      rintro r L' F' ⟨rfl, rfl⟩
      refine l_isRow (.own (.head _)) fun hs' _ => ?_
      all_goals ((try refine zR ?_) <;> (repeat' (with_reducible first | refine And.intro ?_ ?_ | intro _)))
      refine ends_freezeInts .head rfl ?_
      have hn : ¬ l = [] := fun h => by subst h; exact hn0 rfl
      exact e_resT rfl zRes .nil (fsub_cons (.head _) fsub_nil) ⟨_, by simp only [retVal, if_neg hn], rfl, rfl⟩


/-! ### what is owned, lent -/
inductive Loan (L : List Own) : Fact → Prop
  | ints {v : Value} {E : TypeId} {N : Nat} {k : IntKind} {l : List Int} {xs : List Value} : Own.row v E 1 N xs ∈ L → xs = l.map (Value.int k) → Loan L (fList 1 (rInt k) v l)
theorem Loan.holds {L : List Own} {φ : Fact} (h : Loan L φ) {w : World} (hL : Owns w L) : φ.holds w (fun _ => False) := by
  cases h with
  | @ints v E N k l xs hm hx =>
    subst hx
    have hr : w.ownsRow 0 E 1 v N (l.map (Value.int k)) := hL.all _ hm
    have hN : N = l.length := by have := hr.1; simpa using this.symm
    rcases hr.2 with ⟨hv, h0⟩ | ⟨b, cap, cur, hv, _, hh, h1, h2, h3, h4⟩
    · have : l = [] := List.eq_nil_of_length_eq_zero (by omega)
      exact .inl ⟨⟨none, hv⟩, this⟩
    · refine .inr ⟨b, 0, cap, cur, E, (0, 0), by rw [hv, hN], by omega, h2, hh, id, by omega, fun i x hx => ?_⟩
      have := freeze_ints (ik := k) (l := l) [] w (fun _ => False) (fun φ h => by cases h) i x hx
      have hi : i < l.length := (List.getElem?_eq_some_iff.1 hx).1
      have e : ((l.map (Value.int k)).drop (i * 1)).take 1 = (cur.toList.drop (0 + i * 1)).take 1 := by
        rw [← h4, List.drop_take, List.take_take, Nat.zero_add]
        congr 1
        omega
      rw [← e]
      exact this
section
variable {G : Ctx} {n : Nat} {P : Program} {ops : Array Oper} {Q : Post} {rest : List Oper} {m : Regs} {L : List Own} {F : List Fact} {d : Nat} {ty : TypeId} {pos : String} {af : Array Edge} {g : Option (Nat × Bool)}
/-- A call that only computes, and may read what is owned. -/
theorem l_callG {f : FuncId} {xs : List Operand} {vs : List Value} {ts : Array TypeId} {Fc : List Fact} {v : Value}
    (hw : wantG ops m g = some true) (hv : Evs m xs vs) (hd : Nat.blt d n = true) (hs : Spec P f vs [] Fc (Gives v)) (hF : ∀ φ, φ ∈ Fc → φ ∈ F ∨ Loan L φ)
    (h : RunL G n P ops Q rest ((d, v) :: m) L F) : RunL G n P ops Q (⟨some d, .call ⟨.value (.func f), xs.toArray, ts⟩, ty, pos, af, g⟩ :: rest) m L F := by
  intro a w s
  have hwa := wantG_eq (o := ⟨some d, .call ⟨.value (.func f), xs.toArray, ts⟩, ty, pos, af, g⟩) s.env rfl hw
  refine wpList_step fun K hK => ?_
  rw [if_pos hwa]
  unfold Oper.wp
  rw [run_call (first := []) (cap := []) hs.1 (by exact s.env.eval rfl) (hv.map s.env) w, Oper.upon_enter]
  have hvs : ([] ++ vs ++ [] : List Value) = vs := by simp
  rw [hvs]
  refine (hs.2 w (fun _ => False) (fun _ h => h.elim) ⟨fun o h => (by cases h), trivial⟩ ?_).mono ?_
  · intro φ hφ
    rcases hF φ hφ with h1 | h1
    · exact φ.stable (s.facts φ h1) ⟨Nat.le_refl _, fun _ _ _ => rfl, fun x _ hx => by
        rcases hx with hx | hx
        · exact hx.elim
        · exact (keys_nil x hx).elim⟩
    · exact φ.stable (h1.holds s.own) ⟨Nat.le_refl _, fun _ _ _ => rfl, fun x _ hx => by
        rcases hx with hx | hx
        · exact hx.elim
        · exact (keys_nil x hx).elim⟩
  · rintro e w' ⟨v', L', F', rfl, ⟨rfl, rfl, rfl⟩, hkeep, _, _, _⟩
    refine hK _ _ (h _ w' ((s.quiet ⟨hkeep.os, hkeep.tape, hkeep.output, hkeep.size, fun x hx _ => hkeep.block x hx (keys_nil x)⟩).put hd _))
end
end Go.Proofs.YtbllgmcpebifhaaGreatDoor.K
