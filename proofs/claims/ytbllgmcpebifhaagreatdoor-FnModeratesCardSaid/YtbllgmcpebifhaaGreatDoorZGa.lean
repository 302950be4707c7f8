/- Large numbers with their sign: what is told of them; put, SetInt64, newBig, Sign, Neg, Abs, Set. -/
import Derived.Test.YtbllgmcpebifhaaGreatDoorZFa
import Derived.Test.YtbllgmcpebifhaaGreatDoorZMa

section
namespace Go.Proofs.YtbllgmcpebifhaaGreatDoor.K
open Go Go.RowKit
set_option linter.all false
set_option maxRecDepth 4000
set_option maxHeartbeats 1000000

/-- Without zeros at the end: the beginning of a list. -/
def Trims (d d' : List Int) : Prop := ∃ j, j ≤ d.length ∧ d' = d.take j ∧ (∀ x ∈ d.drop j, x = 0) ∧ (d' = [] ∨ ∃ h : d'.length - 1 < d'.length, d'[d'.length - 1] ≠ 0)

theorem trimmed_spec (v : Value) (d : List Int) : Spec Tryz.prog 249 [v] [] [fList 1 (rInt .u32) v d] (fun r L' F' => ∃ d', Trims d d' ∧ L' = [] ∧ F' = [fList 1 (rInt .u32) r d']) := by
  refine enter Tryz.func249 Tryz.ntmps249 rfl (by kernel_rfl) zCon rfl fun G => ?_
  all_goals ((try refine zR ?_) <;> (repeat' (with_reducible first | refine And.intro ?_ ?_ | intro _)))
  refine c_while (ι := { p : Value × Nat // p.2 ≤ d.length ∧ ∀ x ∈ d.drop p.2, x = 0 }) (κ := { p : Value × List Int // Trims d p.2 }) (fun p => [(0, p.1.1)]) (fun _ => []) (fun p => [fList 1 (rInt .u32) p.1.1 (d.take p.1.2)]) (fun p => p.1.2)
    (fun p => [(0, p.1.1)]) (fun _ => []) (fun p => [fList 1 (rInt .u32) p.1.1 p.1.2]) ⟨(v, d.length), Nat.le_refl _, by simp⟩ (fun a w s => s.start zSub rfl (by dsimp only; rw [List.take_length]; exact fun _ h => h)) ?_ ?_
  · rintro ⟨⟨v1, j⟩, hj, hz⟩
    dsimp only at hj hz ⊢
    have hl : (d.take j).length = j := by rw [List.length_take]; omega
    all_goals ((try refine zR ?_) <;> (repeat' (with_reducible first | refine And.intro ?_ ?_ | intro _)))
    · rename_i v2
      refine e_again ⟨(v2, j - 1), by dsimp only; omega, ?_⟩ (by dsimp only; omega) zSub rfl ?_
      · intro x hx
        rw [List.drop_eq_getElem_cons (by dsimp only; omega)] at hx
        cases hx with
        | head =>
          have h1 : (d.take j)[(d.take j).length - 1]'(by omega) = 0 := by assumption
          simp only [hl, List.getElem_take] at h1
          exact h1
        | tail _ hx => exact hz x (by rwa [show j - 1 + 1 = j by omega] at hx)
      · dsimp only
        rw [hl, List.take_take, Nat.min_eq_left (by omega)]
        exact fsub_cons (.head _) fsub_nil
    · have hp : 0 < ((d.take j).length : Int) := by assumption
      refine e_out ⟨(v1, d.take j), j, hj, rfl, hz, .inr ⟨by dsimp only; omega, by assumption⟩⟩ zSub rfl (fun _ h => h)
    · have h0 : j = 0 := by omega
      subst h0
      exact e_out ⟨(v1, d.take 0), 0, hj, rfl, hz, .inl rfl⟩ zSub rfl (fun _ h => h)
  · rintro ⟨⟨v1, d'⟩, hT⟩
    dsimp only at hT ⊢
    all_goals ((try refine zR ?_) <;> (repeat' (with_reducible first | refine And.intro ?_ ?_ | intro _)))
    exact e_resT rfl zRes .nil (fun _ h => h) ⟨d', hT, rfl, rfl⟩

abbrev ptr (b : Nat) : Value := .pointer (some ⟨b, 0, none⟩)
/-- The variable of a large number. -/
abbrev oBig (b : Nat) (neg : Bool) (mag : Value) : Own := .box b [.bool neg, mag] 189
abbrev oInt (b : Nat) (v : Int) (mag : Value) : Own := oBig b (decide (v < 0)) mag

/-- Digits of a number that is at least 0. -/
def Dig (d : List Int) (x : Nat) : Prop := InR 4294967296 d ∧ (d = [] ∨ ∃ h : d.length - 1 < d.length, d[d.length - 1] ≠ 0) ∧ vl 4294967296 d = x
theorem Trims.dig {d d' : List Int} (h : Trims d d') (hr : InR 4294967296 d) : Dig d' (vl 4294967296 d) := by
  obtain ⟨j, _, rfl, hz, ht⟩ := h
  exact ⟨hr.take j, ht, vl_take _ _ _ hz⟩
theorem Dig.len {d : List Int} {x k : Nat} (h : Dig d x) (hx : x < 4294967296 ^ k) : d.length ≤ k := by
  obtain ⟨h1, h2, h3⟩ := h
  rcases h2 with h2 | ⟨h2, h4⟩
  · subst h2; simp
  · rcases Nat.lt_or_ge k d.length with hk | hk
    · exfalso
      have e : vl 4294967296 d = vl 4294967296 (d.take (d.length - 1)) + 4294967296 ^ (d.length - 1) * d[d.length - 1].toNat := by
        rw [← vl_take_succ _ _ _ h2, show d.length - 1 + 1 = d.length by omega, List.take_length]
      have hp := h1 _ (List.getElem_mem h2)
      have h5 : 1 ≤ d[d.length - 1].toNat := by omega
      have h6 : 4294967296 ^ k ≤ 4294967296 ^ (d.length - 1) := Nat.pow_le_pow_right (by omega) (by omega)
      have h7 : 4294967296 ^ (d.length - 1) * 1 ≤ 4294967296 ^ (d.length - 1) * d[d.length - 1].toNat := Nat.mul_le_mul_left _ h5
      omega
    · exact hk
theorem Dig.pos {s : List Int} {x : Nat} (h : Dig s x) (hl : 0 < s.length) : 0 < x := by
  rcases h.2.1 with h2 | ⟨h2, h3⟩
  · subst h2; simp at hl
  · rw [← h.2.2]; exact vl_pos _ (by omega) _ h.1 hl h3
theorem Dig.zero {s : List Int} {x : Nat} (h : Dig s x) (hl : s.length = 0) : x = 0 := by
  rw [← h.2.2, List.eq_nil_of_length_eq_zero hl]; rfl
theorem Dig.small {s : List Int} {x : Nat} (h : Dig s x) (hx : x < 4294967296) : (s = [] ∧ x = 0) ∨ s = [(x : Int)] := by
  have hl := h.len (k := 1) (by omega)
  match s, hl with
  | [], _ => exact .inl ⟨rfl, by have := h.2.2; simpa [vl] using this.symm⟩
  | [y], _ =>
    have h1 := h.2.2
    have h2 := h.1 y (.head _)
    simp only [vl] at h1
    right
    congr 1
    omega
/-- Digits are told. -/
def fDig (mag : Value) (x : Nat) : Fact := ⟨fun w M => ∃ d, Dig d x ∧ ListAt 1 (rInt .u32) mag d w M, fun ⟨d, h1, h2⟩ hl => ⟨d, h1, h2.stable hl⟩⟩
section
variable {G : Ctx} {n : Nat} {P : Program} {ops : Array Oper} {Q : Post} {rest : List Oper} {m : Regs} {L L' : List Own} {F : List Fact} {mag : Value} {x : Nat} {d : List Int}
theorem c_dig {c : Code} (hF : fDig mag x ∈ F) (h : ∀ d, Dig d x → RunC G n P c Q m L (fList 1 (rInt .u32) mag d :: F)) : RunC G n P c Q m L F := fun a w st => by
  obtain ⟨d, h1, h2⟩ := st.facts _ hF
  exact h d h1 a w (st.fact h2)
theorem ends_dig {e : Exit} (hF : fList 1 (rInt .u32) mag d ∈ F) (hd : Dig d x) (h : Ends G n Q e m L (fDig mag x :: F)) : Ends G n Q e m L F := fun a w st =>
  h a w (st.fact (φ := fDig mag x) ⟨d, hd, st.facts _ hF⟩)
end

/-- A large number is handed back where it lies; R stays. -/
def PInt (z : Nat) (v : Int) (R : List Own) (r : Value) (L' : List Own) (F' : List Fact) : Prop := ∃ mag, r = ptr z ∧ L' = oInt z v mag :: R ∧ F' = [fDig mag v.natAbs]

def sv (neg : Bool) (x : Nat) : Int := if neg then -(x : Int) else (x : Int)
theorem sv_neg {neg : Bool} {x : Nat} : decide (sv neg x < 0) = (neg && decide (0 < x)) := by
  unfold sv
  cases neg with
  | true => by_cases h : 0 < x <;> simp [h]
  | false => simp
theorem sv_abs {neg : Bool} {x : Nat} : (sv neg x).natAbs = x := by
  unfold sv; cases neg <;> simp

theorem sv_abs_eq (v : Int) : sv (decide (v < 0)) v.natAbs = v := by
  unfold sv
  by_cases h : v < 0
  · rw [decide_eq_true h]; simp only [if_true]; omega
  · rw [decide_eq_false h]; simp only [Bool.false_eq_true, if_false]; omega
theorem put_spec (b : Nat) (n0 neg : Bool) (m0 mag : Value) (d : List Int) (hr : InR 4294967296 d) : Spec Tryz.prog 237 [ptr b, .bool neg, mag] [oBig b n0 m0] [fList 1 (rInt .u32) mag d] (PInt b (sv neg (vl 4294967296 d)) []) := by
  refine enter Tryz.func237 Tryz.ntmps237 rfl (by kernel_rfl) zCon rfl fun G => ?_
  refine c_isList zMem fun hsl => ?_
  all_goals ((try refine zR ?_) <;> (repeat' (with_reducible first | refine And.intro ?_ ?_ | intro _)))
  refine l_call rfl zEvs rfl (trimmed_spec mag d) zTake zFsub ?_
  rintro mag' L' F' ⟨d', hT, rfl, rfl⟩
  refine l_isList (.head _) fun hs2 => ?_
  have hd := hT.dig hr
  have hz : 0 < d'.length ↔ 0 < vl 4294967296 d := ⟨hd.pos, fun h => Nat.pos_of_ne_zero fun h0 => by have := hd.zero h0; omega⟩
  all_goals ((try refine zR ?_) <;> (repeat' (with_reducible first | refine And.intro ?_ ?_ | intro _)))
  all_goals (
    refine ends_dig (.head _) hd ?_
    refine e_resT rfl zRes (.cons .head .nil) (fsub_cons (.head _) fsub_nil) ⟨mag', rfl, ?_, by rw [sv_abs]⟩
    unfold oInt
    rw [sv_neg])
  all_goals simp_all

/-- Two digits. -/
theorem dig2 (x : Int) (hx : 0 ≤ x ∧ x < 18446744073709551616) : InR 4294967296 [x % 4294967296, x / 4294967296] ∧ vl 4294967296 [x % 4294967296, x / 4294967296] = x.toNat := by
  refine ⟨fun y hy => ?_, by simp only [vl]; omega⟩
  simp only [List.mem_cons, List.not_mem_nil, or_false] at hy
  rcases hy with rfl | rfl <;> omega

theorem SetInt64_spec (b : Nat) (n0 : Bool) (m0 : Value) (x : Int) (hx : -9223372036854775808 ≤ x ∧ x ≤ 9223372036854775807) : Spec Tryz.prog 267 [ptr b, .int .i64 x] [oBig b n0 m0] [] (PInt b x []) := by
  refine enter Tryz.func267 Tryz.ntmps267 rfl (by kernel_rfl) zCon rfl fun G => ?_
  all_goals ((try refine zS ?_) <;> (repeat' (with_reducible first | refine And.intro ?_ ?_ | intro _)))
  refine c_mid (κ := Unit) (fun _ => [(5, .int .u64 (x.natAbs : Int)), (1, .int .i64 x), (0, ptr b)]) (fun _ => [oBig b n0 m0]) (fun _ => []) ?_ ?_
  · all_goals ((try refine zR ?_) <;> (repeat' (with_reducible first | refine And.intro ?_ ?_ | intro _)))
    all_goals exact e_out () zSub rfl zFsub
  intro _
  obtain ⟨h1, h2⟩ := dig2 (x.natAbs : Int) (by omega)
  all_goals ((try refine zR ?_) <;> (repeat' (with_reducible first | refine And.intro ?_ ?_ | intro _)))
  rename_i v
  refine l_freezeInts .head rfl ?_
  refine l_call rfl zEvs rfl (put_spec b n0 (decide (x < 0)) m0 v _ h1) zTake zFsub ?_
  rintro _ L' F' ⟨mag', rfl, rfl, rfl⟩
  all_goals ((try refine zR ?_) <;> (repeat' (with_reducible first | refine And.intro ?_ ?_ | intro _)))
  rw [h2, Int.toNat_natCast, sv_abs_eq]
  exact e_resT rfl zRes (.cons .head .nil) (fsub_cons (.head _) fsub_nil) ⟨mag', rfl, rfl, rfl⟩

theorem newBig_spec (x : Int) (hx : -9223372036854775808 ≤ x ∧ x ≤ 9223372036854775807) : Spec Tryz.prog 219 [.int .i64 x] [] [] (fun r L' F' => ∃ b, PInt b x [] r L' F') := by
  refine enter Tryz.func219 Tryz.ntmps219 rfl (by kernel_rfl) zCon rfl fun G => ?_
  all_goals ((try refine zR ?_) <;> (repeat' (with_reducible first | refine And.intro ?_ ?_ | intro _)))
  rename_i b
  refine l_call rfl zEvs rfl (SetInt64_spec b _ _ x hx) zTake zFsub ?_
  rintro _ L' F' ⟨mag', rfl, rfl, rfl⟩
  all_goals ((try refine zR ?_) <;> (repeat' (with_reducible first | refine And.intro ?_ ?_ | intro _)))
  exact e_resT rfl zRes (.cons .head .nil) (fsub_cons (.head _) fsub_nil) ⟨b, mag', rfl, rfl, rfl⟩
end Go.Proofs.YtbllgmcpebifhaaGreatDoor.K
end

section
/- Large numbers with their sign: shifts up, sums of digits. -/
namespace Go.Proofs.YtbllgmcpebifhaaGreatDoor.K
open Go Go.RowKit
set_option linter.all false
set_option maxRecDepth 4000
set_option maxHeartbeats 1000000
set_option exponentiation.threshold 8000

end Go.Proofs.YtbllgmcpebifhaaGreatDoor.K
end
