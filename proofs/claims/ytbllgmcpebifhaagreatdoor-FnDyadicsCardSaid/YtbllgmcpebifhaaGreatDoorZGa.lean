/- Large numbers with their sign: what is told of them; put, SetInt64, newBig, Sign, Neg, Abs, Set. -/
import Derived.Test.YtbllgmcpebifhaaGreatDoorZFa
import Derived.Test.YtbllgmcpebifhaaGreatDoorZMa

section
namespace Go.Proofs.YtbllgmcpebifhaaGreatDoor.K
open Go Go.RowKit
set_option linter.all false
set_option maxRecDepth 4000
set_option maxHeartbeats 1000000

/-- Without zeros at the end: the beginning of a list. -/
def Trims (d d' : List Int) : Prop := ∃ j, j ≤ d.length ∧ d' = d.take j ∧ (∀ x ∈ d.drop j, x = 0) ∧ (d' = [] ∨ ∃ h : d'.length - 1 < d'.length, d'[d'.length - 1] ≠ 0)

theorem trimmed_spec (v : Value) (d : List Int) : Spec Tryz.prog 249 [v] [] [fList 1 (rInt .u32) v d] (fun r L' F' => ∃ d', Trims d d' ∧ L' = [] ∧ F' = [fList 1 (rInt .u32) r d']) := by
  refine enter Tryz.func249 Tryz.ntmps249 rfl (by kernel_rfl) zCon rfl fun G => ?_
  all_goals ((try refine zR ?_) <;> (repeat' (with_reducible first | refine And.intro ?_ ?_ | intro _)))
  refine c_while (ι := { p : Value × Nat // p.2 ≤ d.length ∧ ∀ x ∈ d.drop p.2, x = 0 }) (κ := { p : Value × List Int // Trims d p.2 }) (fun p => [(0, p.1.1)]) (fun _ => []) (fun p => [fList 1 (rInt .u32) p.1.1 (d.take p.1.2)]) (fun p => p.1.2)
    (fun p => [(0, p.1.1)]) (fun _ => []) (fun p => [fList 1 (rInt .u32) p.1.1 p.1.2]) ⟨(v, d.length), Nat.le_refl _, by simp⟩ (fun a w s => s.start zSub rfl (by dsimp only; rw [List.take_length]; exact fun _ h => h)) ?_ ?_
  · rintro ⟨⟨v1, j⟩, hj, hz⟩
    dsimp only at hj hz ⊢
    have hl : (d.take j).length = j := by rw [List.length_take]; omega
    all_goals ((try refine zR ?_) <;> (repeat' (with_reducible first | refine And.intro ?_ ?_ | intro _)))
    · rename_i v2
      refine e_again ⟨(v2, j - 1), by dsimp only; omega, ?_⟩ (by dsimp only; omega) zSub rfl ?_
      · intro x hx
        rw [List.drop_eq_getElem_cons (by dsimp only; omega)] at hx
        cases hx with
        | head =>
          have h1 : (d.take j)[(d.take j).length - 1]'(by omega) = 0 := by assumption
          simp only [hl, List.getElem_take] at h1
          exact h1
        | tail _ hx => exact hz x (by rwa [show j - 1 + 1 = j by omega] at hx)
      · dsimp only
        rw [hl, List.take_take, Nat.min_eq_left (by omega)]
        exact fsub_cons (.head _) fsub_nil
    · have hp : 0 < ((d.take j).length : Int) := by assumption
      refine e_out ⟨(v1, d.take j), j, hj, rfl, hz, .inr ⟨by dsimp only; omega, by assumption⟩⟩ zSub rfl (fun _ h => h)
    · have h0 : j = 0 := by omega
      subst h0
      exact e_out ⟨(v1, d.take 0), 0, hj, rfl, hz, .inl rfl⟩ zSub rfl (fun _ h => h)
  · rintro ⟨⟨v1, d'⟩, hT⟩
    dsimp only at hT ⊢
    all_goals ((try refine zR ?_) <;> (repeat' (with_reducible first | refine And.intro ?_ ?_ | intro _)))
    exact e_resT rfl zRes .nil (fun _ h => h) ⟨d', hT, rfl, rfl⟩

abbrev ptr (b : Nat) : Value := .pointer (some ⟨b, 0, none⟩)
/-- The variable of a large number. -/
abbrev oBig (b : Nat) (neg : Bool) (mag : Value) : Own := .box b [.bool neg, mag] 189
abbrev oInt (b : Nat) (v : Int) (mag : Value) : Own := oBig b (decide (v < 0)) mag

/-- Digits of a number that is at least 0. -/
def Dig (d : List Int) (x : Nat) : Prop := InR 4294967296 d ∧ (d = [] ∨ ∃ h : d.length - 1 < d.length, d[d.length - 1] ≠ 0) ∧ vl 4294967296 d = x
theorem Trims.dig {d d' : List Int} (h : Trims d d') (hr : InR 4294967296 d) : Dig d' (vl 4294967296 d) := by
  obtain ⟨j, _, rfl, hz, ht⟩ := h
  exact ⟨hr.take j, ht, vl_take _ _ _ hz⟩
theorem Dig.len {d : List Int} {x k : Nat} (h : Dig d x) (hx : x < 4294967296 ^ k) : d.length ≤ k := by
  obtain ⟨h1, h2, h3⟩ := h
  rcases h2 with h2 | ⟨h2, h4⟩
  · subst h2; simp
  · rcases Nat.lt_or_ge k d.length with hk | hk
    · exfalso
      have e : vl 4294967296 d = vl 4294967296 (d.take (d.length - 1)) + 4294967296 ^ (d.length - 1) * d[d.length - 1].toNat := by
        rw [← vl_take_succ _ _ _ h2, show d.length - 1 + 1 = d.length by omega, List.take_length]
      have hp := h1 _ (List.getElem_mem h2)
      have h5 : 1 ≤ d[d.length - 1].toNat := by omega
      have h6 : 4294967296 ^ k ≤ 4294967296 ^ (d.length - 1) := Nat.pow_le_pow_right (by omega) (by omega)
      have h7 : 4294967296 ^ (d.length - 1) * 1 ≤ 4294967296 ^ (d.length - 1) * d[d.length - 1].toNat := Nat.mul_le_mul_left _ h5
      omega
    · exact hk
theorem Dig.pos {s : List Int} {x : Nat} (h : Dig s x) (hl : 0 < s.length) : 0 < x := by
  rcases h.2.1 with h2 | ⟨h2, h3⟩
  · subst h2; simp at hl
  · rw [← h.2.2]; exact vl_pos _ (by omega) _ h.1 hl h3
theorem Dig.zero {s : List Int} {x : Nat} (h : Dig s x) (hl : s.length = 0) : x = 0 := by
  rw [← h.2.2, List.eq_nil_of_length_eq_zero hl]; rfl
theorem Dig.small {s : List Int} {x : Nat} (h : Dig s x) (hx : x < 4294967296) : (s = [] ∧ x = 0) ∨ s = [(x : Int)] := by
  have hl := h.len (k := 1) (by omega)
  match s, hl with
  | [], _ => exact .inl ⟨rfl, by have := h.2.2; simpa [vl] using this.symm⟩
  | [y], _ =>
    have h1 := h.2.2
    have h2 := h.1 y (.head _)
    simp only [vl] at h1
    right
    congr 1
    omega
/-- Digits are told. -/
def fDig (mag : Value) (x : Nat) : Fact := ⟨fun w M => ∃ d, Dig d x ∧ ListAt 1 (rInt .u32) mag d w M, fun ⟨d, h1, h2⟩ hl => ⟨d, h1, h2.stable hl⟩⟩
section
variable {G : Ctx} {n : Nat} {P : Program} {ops : Array Oper} {Q : Post} {rest : List Oper} {m : Regs} {L L' : List Own} {F : List Fact} {mag : Value} {x : Nat} {d : List Int}
theorem c_dig {c : Code} (hF : fDig mag x ∈ F) (h : ∀ d, Dig d x → RunC G n P c Q m L (fList 1 (rInt .u32) mag d :: F)) : RunC G n P c Q m L F := fun a w st => by
  obtain ⟨d, h1, h2⟩ := st.facts _ hF
  exact h d h1 a w (st.fact h2)
theorem ends_dig {e : Exit} (hF : fList 1 (rInt .u32) mag d ∈ F) (hd : Dig d x) (h : Ends G n Q e m L (fDig mag x :: F)) : Ends G n Q e m L F := fun a w st =>
  h a w (st.fact (φ := fDig mag x) ⟨d, hd, st.facts _ hF⟩)
theorem l_nilDig (h : RunL G n P ops Q rest m L (fDig (.slice none 0 0) 0 :: F)) : RunL G n P ops Q rest m L F := fun a w st =>
  h a w (st.fact (φ := fDig (.slice none 0 0) 0) ⟨[], ⟨fun x hx => (by cases hx), .inl rfl, rfl⟩, .inl ⟨⟨none, rfl⟩, rfl⟩⟩)
theorem c_nilDig {c : Code} (h : RunC G n P c Q m L (fDig (.slice none 0 0) 0 :: F)) : RunC G n P c Q m L F := fun a w st =>
  h a w (st.fact (φ := fDig (.slice none 0 0) 0) ⟨[], ⟨fun x hx => (by cases hx), .inl rfl, rfl⟩, .inl ⟨⟨none, rfl⟩, rfl⟩⟩)
end

/-- A large number is handed back where it lies; R stays. -/
def PInt (z : Nat) (v : Int) (R : List Own) (r : Value) (L' : List Own) (F' : List Fact) : Prop := ∃ mag, r = ptr z ∧ L' = oInt z v mag :: R ∧ F' = [fDig mag v.natAbs]

def sv (neg : Bool) (x : Nat) : Int := if neg then -(x : Int) else (x : Int)
theorem sv_neg {neg : Bool} {x : Nat} : decide (sv neg x < 0) = (neg && decide (0 < x)) := by
  unfold sv
  cases neg with
  | true => by_cases h : 0 < x <;> simp [h]
  | false => simp
theorem sv_abs {neg : Bool} {x : Nat} : (sv neg x).natAbs = x := by
  unfold sv; cases neg <;> simp

theorem sv_abs_eq (v : Int) : sv (decide (v < 0)) v.natAbs = v := by
  unfold sv
  by_cases h : v < 0
  · rw [decide_eq_true h]; simp only [if_true]; omega
  · rw [decide_eq_false h]; simp only [Bool.false_eq_true, if_false]; omega
theorem sv_mul (neg : Bool) (x y : Nat) : sv neg (x * y) = sv neg x * (y : Int) := by
  unfold sv; cases neg <;> simp [Int.neg_mul]

theorem put_spec (b : Nat) (n0 neg : Bool) (m0 mag : Value) (d : List Int) (hr : InR 4294967296 d) : Spec Tryz.prog 237 [ptr b, .bool neg, mag] [oBig b n0 m0] [fList 1 (rInt .u32) mag d] (PInt b (sv neg (vl 4294967296 d)) []) := by
  refine enter Tryz.func237 Tryz.ntmps237 rfl (by kernel_rfl) zCon rfl fun G => ?_
  refine c_isList zMem fun hsl => ?_
  all_goals ((try refine zR ?_) <;> (repeat' (with_reducible first | refine And.intro ?_ ?_ | intro _)))
  refine l_call rfl zEvs rfl (trimmed_spec mag d) zTake zFsub ?_
  rintro mag' L' F' ⟨d', hT, rfl, rfl⟩
  refine l_isList (.head _) fun hs2 => ?_
  have hd := hT.dig hr
  have hz : 0 < d'.length ↔ 0 < vl 4294967296 d := ⟨hd.pos, fun h => Nat.pos_of_ne_zero fun h0 => by have := hd.zero h0; omega⟩
  all_goals ((try refine zR ?_) <;> (repeat' (with_reducible first | refine And.intro ?_ ?_ | intro _)))
  all_goals (
    refine ends_dig (.head _) hd ?_
    refine e_resT rfl zRes (.cons .head .nil) (fsub_cons (.head _) fsub_nil) ⟨mag', rfl, ?_, by rw [sv_abs]⟩
    unfold oInt
    rw [sv_neg])
  all_goals simp_all

/-- Two digits. -/
theorem dig2 (x : Int) (hx : 0 ≤ x ∧ x < 18446744073709551616) : InR 4294967296 [x % 4294967296, x / 4294967296] ∧ vl 4294967296 [x % 4294967296, x / 4294967296] = x.toNat := by
  refine ⟨fun y hy => ?_, by simp only [vl]; omega⟩
  simp only [List.mem_cons, List.not_mem_nil, or_false] at hy
  rcases hy with rfl | rfl <;> omega

theorem SetInt64_spec (b : Nat) (n0 : Bool) (m0 : Value) (x : Int) (hx : -9223372036854775808 ≤ x ∧ x ≤ 9223372036854775807) : Spec Tryz.prog 267 [ptr b, .int .i64 x] [oBig b n0 m0] [] (PInt b x []) := by
  refine enter Tryz.func267 Tryz.ntmps267 rfl (by kernel_rfl) zCon rfl fun G => ?_
  all_goals ((try refine zS ?_) <;> (repeat' (with_reducible first | refine And.intro ?_ ?_ | intro _)))
  refine c_mid (κ := Unit) (fun _ => [(5, .int .u64 (x.natAbs : Int)), (1, .int .i64 x), (0, ptr b)]) (fun _ => [oBig b n0 m0]) (fun _ => []) ?_ ?_
  · all_goals ((try refine zR ?_) <;> (repeat' (with_reducible first | refine And.intro ?_ ?_ | intro _)))
    all_goals exact e_out () zSub rfl zFsub
  intro _
  obtain ⟨h1, h2⟩ := dig2 (x.natAbs : Int) (by omega)
  all_goals ((try refine zR ?_) <;> (repeat' (with_reducible first | refine And.intro ?_ ?_ | intro _)))
  rename_i v
  refine l_freezeInts .head rfl ?_
  refine l_call rfl zEvs rfl (put_spec b n0 (decide (x < 0)) m0 v _ h1) zTake zFsub ?_
  rintro _ L' F' ⟨mag', rfl, rfl, rfl⟩
  all_goals ((try refine zR ?_) <;> (repeat' (with_reducible first | refine And.intro ?_ ?_ | intro _)))
  rw [h2, Int.toNat_natCast, sv_abs_eq]
  exact e_resT rfl zRes (.cons .head .nil) (fsub_cons (.head _) fsub_nil) ⟨mag', rfl, rfl, rfl⟩

theorem newBig_spec (x : Int) (hx : -9223372036854775808 ≤ x ∧ x ≤ 9223372036854775807) : Spec Tryz.prog 219 [.int .i64 x] [] [] (fun r L' F' => ∃ b, PInt b x [] r L' F') := by
  refine enter Tryz.func219 Tryz.ntmps219 rfl (by kernel_rfl) zCon rfl fun G => ?_
  all_goals ((try refine zR ?_) <;> (repeat' (with_reducible first | refine And.intro ?_ ?_ | intro _)))
  rename_i b
  refine l_call rfl zEvs rfl (SetInt64_spec b _ _ x hx) zTake zFsub ?_
  rintro _ L' F' ⟨mag', rfl, rfl, rfl⟩
  all_goals ((try refine zR ?_) <;> (repeat' (with_reducible first | refine And.intro ?_ ?_ | intro _)))
  exact e_resT rfl zRes (.cons .head .nil) (fsub_cons (.head _) fsub_nil) ⟨b, mag', rfl, rfl, rfl⟩
end Go.Proofs.YtbllgmcpebifhaaGreatDoor.K
end

section
/- Large numbers with their sign: shifts up, sums of digits. -/
namespace Go.Proofs.YtbllgmcpebifhaaGreatDoor.K
open Go Go.RowKit
set_option linter.all false
set_option maxRecDepth 4000
set_option maxHeartbeats 1000000
set_option exponentiation.threshold 8000

theorem Lsh_spec (z x : Nat) (v : Int) (n0 : Bool) (m0 mx : Value) (R : List Own) (q s : Nat) (hs : s < 32) (hq : q ≤ 1000) (hx : oInt x v mx ∈ oBig z n0 m0 :: R) (hv : v.natAbs < 4294967296 ^ 1000) :
    Spec Tryz.prog 229 [ptr z, ptr x, .int .u64 ((32 * q + s : Nat) : Int)] (oBig z n0 m0 :: R) [fDig mx v.natAbs] (PInt z (v * 2 ^ (32 * q + s)) R) := by
  refine enter Tryz.func229 Tryz.ntmps229 rfl (by kernel_rfl) zCon rfl fun G => ?_
  refine c_dig zMem fun d hd => ?_
  refine c_isList (v := mx) zMem fun hsl => ?_
  have hdl := hd.len hv
  have hS : (2 : Nat) ^ s < 4294967296 := Nat.pow_lt_pow_right (by omega) hs
  have hS0 : 0 < (2 : Nat) ^ s := Nat.pow_pos (by omega)
  have h1 : ((32 * q + s : Nat) : Int).tdiv 32 = (q : Int) := by rw [Int.tdiv_eq_ediv_of_nonneg (by omega)]; omega
  have h2 : ((32 * q + s : Nat) : Int).tmod 32 = (s : Int) := by rw [Int.tmod_eq_emod_of_nonneg (by omega)]; omega
  all_goals ((try refine zR ?_) <;> (repeat' (with_reducible first | refine And.intro ?_ ?_ | intro _)))
  rename_i r _
  refine c_while (ι := { p : Nat × List Int × Int // p.1 ≤ d.length ∧ p.2.1.length = p.1 ∧ InR 4294967296 p.2.1 ∧ (0 ≤ p.2.2 ∧ p.2.2 < ((2 ^ s : Nat) : Int)) ∧ vl 4294967296 p.2.1 + 4294967296 ^ p.1 * p.2.2.toNat = 2 ^ s * vl 4294967296 (d.take p.1) }) (κ := { p : List Int // InR 4294967296 p ∧ vl 4294967296 p = v.natAbs * 2 ^ (32 * q + s) })
    (fun p => [(27, .int .i64 (p.1.1 : Int)), (26, .int .i64 (d.length : Int)), (25, mx), (7, r), (2, .int .u64 ((32 * q + s : Nat) : Int)), (1, ptr x), (0, ptr z)]) (fun p => .row r 220 1 (d.length + q + 1) ((List.replicate q 0 ++ (p.1.2.1 ++ p.1.2.2 :: List.replicate (d.length - p.1.1) 0)).map (Value.int .u32)) :: oBig z n0 m0 :: R) (fun _ => [fList 1 (rInt .u32) mx d]) (fun p => d.length - p.1.1)
    (fun _ => [(7, r), (1, ptr x), (0, ptr z)]) (fun p => .row r 220 1 (d.length + q + 1) (p.1.map (Value.int .u32)) :: oBig z n0 m0 :: R) (fun _ => []) ⟨(0, [], 0), by simp [vl, InR]; exact Int.pow_pos (by decide)⟩ (fun _ _ t => t.start zSub (by
      dsimp only
      rw [List.nil_append, Nat.sub_zero, ← List.replicate_succ, List.replicate_append_replicate]
      congr 4; omega) zFsub) ?_ ?_
  · rintro ⟨⟨i, P, c⟩, hi, hP, hR, hc, hval⟩
    dsimp only at hi hP hR hc hval ⊢
    have hlen : (List.replicate q 0 ++ (P ++ c :: List.replicate (d.length - i) 0)).length = d.length + q + 1 := by simp; omega
    by_cases hil : i < d.length
    · have hx := hd.1 _ (List.getElem_mem hil)
      obtain ⟨t, ht⟩ : ∃ t, t = d[i] * 2 ^ s := ⟨_, rfl⟩
      have ht' : t = ((d[i].toNat * 2 ^ s : Nat) : Int) := by rw [ht, Int.natCast_mul, Int.toNat_of_nonneg hx.1]; simp
      have htb : 0 ≤ t ∧ t < 4294967296 * ((2 ^ s : Nat) : Int) := by
        have h3 : d[i].toNat * 2 ^ s < 4294967296 * 2 ^ s := Nat.mul_lt_mul_of_pos_right (by omega) hS0
        rw [ht']
        revert h3
        generalize d[i].toNat * 2 ^ s = A
        generalize (2 : Nat) ^ s = S
        intro h3
        omega
      have hw : IntKind.u64.wrap (d[i] * 2 ^ s) = t := by rw [← ht]; exact w_u64 (by omega)
      have hget : (List.replicate q 0 ++ (P ++ c :: List.replicate (d.length - i) 0))[i + q]? = some c := by
        rw [List.getElem?_append_right (by simp), List.length_replicate, Nat.add_sub_cancel, ← hP]; exact row_get _ _ _
      have hm : t % 4294967296 % ((2 ^ s : Nat) : Int) = 0 := by
        have hdv : ((2 ^ s : Nat) : Int) ∣ 4294967296 := ⟨((2 ^ (32 - s) : Nat) : Int), by rw [← Int.natCast_mul, ← Nat.pow_add, show s + (32 - s) = 32 by omega]; rfl⟩
        rw [Int.emod_emod_of_dvd _ hdv, ht', Int.natCast_mul]
        exact Int.mul_emod_left _ _
      have ho : bits .or .u32 c (t % 4294967296) = c + t % 4294967296 := or_apart32 s (by rw [show (2 : Int) ^ s = ((2 ^ s : Nat) : Int) by simp]; exact hc) (by omega) (by omega) (by rw [show (2 : Int) ^ s = ((2 ^ s : Nat) : Int) by simp]; exact hm)
      have hcb : c + t % 4294967296 < 4294967296 := by
        have hdv : (4294967296 : Int) = ((2 ^ s : Nat) : Int) * ((2 ^ (32 - s) : Nat) : Int) := by rw [← Int.natCast_mul, ← Nat.pow_add, show s + (32 - s) = 32 by omega]; rfl
        have h3 := Int.mul_ediv_add_emod (t % 4294967296) ((2 ^ s : Nat) : Int)
        rw [hm, Int.add_zero] at h3
        have h4 : t % 4294967296 / ((2 ^ s : Nat) : Int) < ((2 ^ (32 - s) : Nat) : Int) := Int.ediv_lt_of_lt_mul (by omega) (by rw [Int.mul_comm, ← hdv]; omega)
        have h5 : ((2 ^ s : Nat) : Int) * (t % 4294967296 / ((2 ^ s : Nat) : Int) + 1) ≤ ((2 ^ s : Nat) : Int) * ((2 ^ (32 - s) : Nat) : Int) := Int.mul_le_mul_of_nonneg_left (by omega) (by omega)
        rw [Int.mul_add, Int.mul_one, h3, ← hdv] at h5
        omega
      have hdvt : t / 4294967296 < ((2 ^ s : Nat) : Int) := by omega
      all_goals ((try refine zR ?_) <;> (repeat' (with_reducible first | refine And.intro ?_ ?_ | intro _)))
      all_goals (first | (exfalso; omega) | skip)
      · refine e_again ⟨(i + 1, P ++ [c + t % 4294967296], t / 4294967296), by omega, by simp [hP], hR.snoc (by omega), by dsimp only; omega, ?_⟩ (by dsimp only; omega) zSub ?_ (fun _ h => h)
        · have h6 := lshS_step 4294967296 (2 ^ s) (4294967296 ^ i) (vl 4294967296 (d.take i)) (vl 4294967296 P) c.toNat d[i].toNat hval
          dsimp only
          rw [vl_snoc, hP, vl_take_succ _ _ _ hil, ← h6, Nat.pow_succ]
          have e1 : (c + t % 4294967296).toNat = c.toNat + d[i].toNat * 2 ^ s % 4294967296 := by omega
          have e2 : (t / 4294967296).toNat = d[i].toNat * 2 ^ s / 4294967296 := by omega
          rw [e1, e2]
        · dsimp only
          have e0 : d.length - i = (d.length - (i + 1)) + 1 := by omega
          congr 3
          rw [List.set_append_right _ _ (by simp), List.set_append_right _ _ (by simp; omega)]
          simp only [List.length_replicate]
          rw [show i + q - q = P.length by omega, show i + q + 1 - q = P.length + 1 by omega, row_set, e0, List.replicate_succ]
          have := row_set (P ++ [c + t % 4294967296]) 0 (t / 4294967296) (List.replicate (d.length - (i + 1)) 0)
          simp only [List.length_append, List.length_singleton, List.append_assoc, List.singleton_append] at this
          rw [this]; simp
    · all_goals ((try refine zR ?_) <;> (repeat' (with_reducible first | refine And.intro ?_ ?_ | intro _)))
      all_goals (first | (exfalso; omega) | skip)
      have hi' : i = d.length := by omega
      subst hi'
      refine e_out ⟨List.replicate q 0 ++ (P ++ [c]), ?_, ?_⟩ zSub (by simp) (fun _ h => by cases h)
      · intro y hy
        rcases List.mem_append.1 hy with h | h
        · rw [List.eq_of_mem_replicate h]; omega
        · exact hR.snoc (by omega) y h
      · rw [vl_append, vl_snoc, hP, hval, List.take_length, hd.2.2, vl_zeros _ _ (fun x hx => List.eq_of_mem_replicate hx), List.length_replicate, Nat.zero_add, Nat.pow_add, Nat.mul_comm (2 ^ s), ← Nat.mul_assoc, Nat.mul_comm (4294967296 ^ q), Nat.mul_assoc]
        congr 1
        rw [Nat.mul_comm, Nat.mul_comm (2 ^ (32 * q)), Nat.pow_mul]
  · rintro ⟨p, hp, hpv⟩
    dsimp only at hp hpv ⊢
    refine c_freezeInts .head rfl ?_
    all_goals ((try refine zR ?_) <;> (repeat' (with_reducible first | refine And.intro ?_ ?_ | intro _)))
    refine l_call rfl zEvs rfl (put_spec z n0 (decide (v < 0)) m0 r p hp) zTake zFsub ?_
    rintro _ L' F' ⟨mag', rfl, rfl, rfl⟩
    all_goals ((try refine zR ?_) <;> (repeat' (with_reducible first | refine And.intro ?_ ?_ | intro _)))
    rw [hpv, sv_mul, sv_abs_eq, show ((2 ^ (32 * q + s) : Nat) : Int) = 2 ^ (32 * q + s) by simp]
    exact e_res rfl zRes _ _ (fun _ h => h) (fun _ h => h.apart) (fsub_cons (.head _) fsub_nil) ⟨mag', rfl, rfl, rfl⟩
end Go.Proofs.YtbllgmcpebifhaaGreatDoor.K
end
