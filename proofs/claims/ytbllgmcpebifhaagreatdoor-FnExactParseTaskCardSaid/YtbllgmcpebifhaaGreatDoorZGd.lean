/- Large numbers with their sign: products. -/
import Derived.Test.YtbllgmcpebifhaaGreatDoorZGc
namespace Go.Proofs.YtbllgmcpebifhaaGreatDoor.K
open Go Go.RowKit
set_option linter.all false
set_option maxRecDepth 4000
set_option maxHeartbeats 1000000
set_option exponentiation.threshold 8000

/-- The product's digits after i rounds. -/
structure MulO (a b : List Int) (i : Nat) (o : List Int) : Prop where
  len : o.length = a.length + b.length
  inr : InR 4294967296 o
  val : vl 4294967296 o = vl 4294967296 (a.take i) * vl 4294967296 b
  zero : ∀ j, i + b.length ≤ j → j < o.length → o.getD j 0 = 0
/-- .. and after k steps of a round. -/
structure MulI (a b : List Int) (i k : Nat) (c : Int) (o : List Int) : Prop where
  len : o.length = a.length + b.length
  inr : InR 4294967296 o
  carry : 0 ≤ c ∧ c < 4294967296
  val : vl 4294967296 o + 4294967296 ^ (i + k) * c.toNat = vl 4294967296 (a.take i) * vl 4294967296 b + (a.getD i 0).toNat * (4294967296 ^ i * vl 4294967296 (b.take k))
  zero : ∀ j, i + b.length ≤ j → j < o.length → o.getD j 0 = 0

theorem MulO.start {a b o : List Int} {i : Nat} (h : MulO a b i o) : MulI a b i 0 0 o :=
  ⟨h.len, h.inr, by omega, by rw [h.val]; simp [vl], h.zero⟩
theorem prod_bound {x y : Int} (hx : 0 ≤ x ∧ x < 4294967296) (hy : 0 ≤ y ∧ y < 4294967296) : 0 ≤ x * y ∧ x * y ≤ 18446744065119617025 := by
  refine ⟨Int.mul_nonneg hx.1 hy.1, ?_⟩
  have h1 : x * y ≤ 4294967295 * y := Int.mul_le_mul_of_nonneg_right (by omega) hy.1
  omega
theorem MulI.step {a b o : List Int} {i k : Nat} {c t : Int} (h : MulI a b i k c o) (ha : InR 4294967296 a) (hb : InR 4294967296 b) (hi : i < a.length) (hk : k < b.length) (hik : i + k < o.length) (ht : t = c + (a[i] * b[k] + o[i + k])) :
    MulI a b i (k + 1) (t / 4294967296) (o.set (i + k) (t % 4294967296)) := by
  have hx := ha _ (List.getElem_mem hi)
  have hy := hb _ (List.getElem_mem hk)
  have ho := h.inr _ (List.getElem_mem hik)
  have hp := prod_bound hx hy
  have hc := h.carry
  refine ⟨by simp [h.len], h.inr.set _ (by omega), by omega, ?_, fun j hj hl => ?_⟩
  · have h1 := vl_set 4294967296 o (i + k) hik (t % 4294967296)
    have hai : a.getD i 0 = a[i] := by rw [List.getD_eq_getElem?_getD, List.getElem?_eq_getElem hi]; rfl
    have h2 := h.val
    rw [hai] at h2 ⊢
    have htn : t.toNat = c.toNat + a[i].toNat * b[k].toNat + o[i + k].toNat := by
      have e : (a[i] * b[k]).toNat = a[i].toNat * b[k].toNat := by rw [Int.toNat_mul hx.1 hy.1]
      omega
    have e1 : (t % 4294967296).toNat = t.toNat % 4294967296 := by omega
    have e2 : (t / 4294967296).toNat = t.toNat / 4294967296 := by omega
    rw [e1] at h1
    have h3 := mul_step 4294967296 (4294967296 ^ (i + k)) _ _ c.toNat a[i].toNat b[k].toNat o[i + k].toNat t.toNat _ h1 h2 htn
    rw [e2, vl_take_succ _ _ _ hk, show i + (k + 1) = (i + k) + 1 by omega, Nat.pow_succ 4294967296 (i + k), h3, Nat.add_assoc]
    congr 1
    rw [Nat.mul_add, Nat.mul_add, Nat.pow_add]
    congr 1
    ac_rfl
  · rw [List.length_set] at hl
    rw [List.getD_eq_getElem?_getD, List.getElem?_set_ne (by omega), ← List.getD_eq_getElem?_getD]
    exact h.zero j hj hl
theorem MulI.last {a b o : List Int} {i : Nat} {c : Int} (h : MulI a b i b.length c o) (hi : i < a.length) : MulO a b (i + 1) (o.set (i + b.length) c) := by
  have hil : i + b.length < o.length := by rw [h.len]; omega
  refine ⟨by simp [h.len], h.inr.set _ h.carry, ?_, fun j hj hl => ?_⟩
  · have h1 := vl_set 4294967296 o (i + b.length) hil c
    have h0 := h.zero (i + b.length) (Nat.le_refl _) hil
    rw [List.getD_eq_getElem?_getD, List.getElem?_eq_getElem hil] at h0
    have h0 : o[i + b.length] = 0 := h0
    have hai : a.getD i 0 = a[i] := by rw [List.getD_eq_getElem?_getD, List.getElem?_eq_getElem hi]; rfl
    have h2 := h.val
    rw [hai, List.take_length] at h2
    rw [h0] at h1
    simp only [Int.toNat_zero, Nat.mul_zero, Nat.add_zero] at h1
    rw [h1, h2, vl_take_succ _ _ _ hi, Nat.add_mul]
    congr 1
    ac_rfl
  · rw [List.length_set] at hl
    rw [List.getD_eq_getElem?_getD, List.getElem?_set_ne (by omega), ← List.getD_eq_getElem?_getD]
    exact h.zero j (by omega) hl

theorem Mul_spec (z x y : Nat) (vx vy : Int) (n0 : Bool) (m0 mx my : Value) (R : List Own) (hx : oInt x vx mx ∈ oBig z n0 m0 :: R) (hy : oInt y vy my ∈ oBig z n0 m0 :: R) (hvx : vx.natAbs < 4294967296 ^ 900) (hvy : vy.natAbs < 4294967296 ^ 900) :
    Spec Tryz.prog 242 [ptr z, ptr x, ptr y] (oBig z n0 m0 :: R) [fDig mx vx.natAbs, fDig my vy.natAbs] (PInt z (vx * vy) R) := by
  refine enter Tryz.func242 Tryz.ntmps242 rfl (by kernel_rfl) zCon rfl fun G => ?_
  refine c_dig (mag := mx) zMem fun a ha => ?_
  refine c_dig (mag := my) zMem fun b hb => ?_
  refine c_isList (v := mx) zMem fun hs1 => ?_
  refine c_isList (v := my) zMem fun hs2 => ?_
  have hla := ha.len hvx
  have hlb := hb.len hvy
  all_goals ((try refine zS ?_) <;> (repeat' (with_reducible first | refine And.intro ?_ ?_ | intro _)))
  refine c_draw ([11, 12], []) [oInt x vx mx, oInt y vy my] [0, 1, 2, 3, 4, 5, 6, 7, 8, 9, 10, 11, 12] (by kernel_rfl) (by kernel_rfl) ?_
  all_goals ((try refine zD ?_) <;> (repeat' (with_reducible first | refine And.intro ?_ ?_ | intro _)))
  rename_i r _
  refine c_while (ι := { p : Nat × List Int // p.1 ≤ a.length ∧ MulO a b p.1 p.2 }) (κ := { o : List Int // MulO a b a.length o })
    (fun p => [(30, .int .i64 (p.1.1 : Int)), (29, .int .i64 (a.length : Int)), (28, mx), (7, r), (2, ptr y), (1, ptr x), (0, ptr z)]) (fun p => .row r 220 1 (a.length + b.length) (p.1.2.map (Value.int .u32)) :: oBig z n0 m0 :: R) (fun _ => [fList 1 (rInt .u32) mx a, fList 1 (rInt .u32) my b]) (fun p => a.length - p.1.1)
    (fun _ => [(7, r), (2, ptr y), (1, ptr x), (0, ptr z)]) (fun p => .row r 220 1 (a.length + b.length) (p.1.map (Value.int .u32)) :: oBig z n0 m0 :: R) (fun _ => []) ⟨(0, List.replicate (a.length + b.length) 0), Nat.zero_le _, ⟨by simp, fun x hx => by rw [List.eq_of_mem_replicate hx]; omega, by rw [vl_zeros _ _ (fun x hx => List.eq_of_mem_replicate hx)]; simp [vl], fun j _ hj => by simp [List.getD_eq_getElem?_getD, List.getElem?_replicate]; split <;> rfl⟩⟩ (fun _ _ s => s.start zSub zRfl zFsub) ?_ ?_
  · rintro ⟨⟨i, o⟩, hi, hO⟩
    dsimp only at hi hO ⊢
    by_cases hil : i < a.length
    · have hxa := ha.1 _ (List.getElem_mem hil)
      have hol := hO.len
      all_goals ((try refine zR ?_) <;> (repeat' (with_reducible first | refine And.intro ?_ ?_ | intro _)))
      all_goals (first | (exfalso; omega) | skip)
      refine c_while (ι := { p : Nat × Int × List Int // p.1 ≤ b.length ∧ MulI a b i p.1 p.2.1 p.2.2 }) (κ := { p : Int × List Int // MulI a b i b.length p.1 p.2 })
        (fun p => [(40, .int .i64 (p.1.1 : Int)), (39, .int .i64 (b.length : Int)), (38, my), (10, .int .u64 p.1.2.1), (9, .int .u32 a[i]), (8, .int .i64 (i : Int)), (30, .int .i64 (i : Int)), (29, .int .i64 (a.length : Int)), (28, mx), (7, r), (2, ptr y), (1, ptr x), (0, ptr z)]) (fun p => .row r 220 1 (a.length + b.length) (p.1.2.2.map (Value.int .u32)) :: oBig z n0 m0 :: R) (fun _ => [fList 1 (rInt .u32) mx a, fList 1 (rInt .u32) my b]) (fun p => b.length - p.1.1)
        (fun p => [(10, .int .u64 p.1.1), (8, .int .i64 (i : Int)), (30, .int .i64 (i : Int)), (29, .int .i64 (a.length : Int)), (28, mx), (7, r), (2, ptr y), (1, ptr x), (0, ptr z)]) (fun p => .row r 220 1 (a.length + b.length) (p.1.2.map (Value.int .u32)) :: oBig z n0 m0 :: R) (fun _ => [fList 1 (rInt .u32) mx a, fList 1 (rInt .u32) my b]) ⟨(0, 0, o), Nat.zero_le _, hO.start⟩ (fun _ _ s => s.start zSub zRfl zFsub) ?_ ?_
      · rintro ⟨⟨k, c, o'⟩, hk, hI⟩
        dsimp only at hk hI ⊢
        have hol' := hI.len
        by_cases hkl : k < b.length
        · have hyb := hb.1 _ (List.getElem_mem hkl)
          have hp := prod_bound hxa hyb
          have hik : i + k < o'.length := by omega
          have hoo := hI.inr _ (List.getElem_mem hik)
          have hget : o'[i + k]? = some o'[i + k] := List.getElem?_eq_getElem hik
          have hw : IntKind.u64.wrap (a[i] * b[k]) = a[i] * b[k] := w_u64 (by omega)
          have hc := hI.carry
          have hst := hI.step ha.1 hb.1 hil hkl hik rfl
          all_goals ((try refine zR ?_) <;> (repeat' (with_reducible first | refine And.intro ?_ ?_ | intro _)))
          all_goals (first | (exfalso; omega) | skip)
          exact e_again ⟨(k + 1, _, _), by omega, hst⟩ (by dsimp only; omega) zSub rfl (fun _ h => h)
        · have : k = b.length := by omega
          subst this
          all_goals ((try refine zR ?_) <;> (repeat' (with_reducible first | refine And.intro ?_ ?_ | intro _)))
          all_goals (first | (exfalso; omega) | skip)
          exact e_out ⟨(c, o'), hI⟩ zSub rfl (fun _ h => h)
      · rintro ⟨⟨c, o'⟩, hI⟩
        dsimp only at hI ⊢
        have hol' := hI.len
        have hc := hI.carry
        all_goals ((try refine zR ?_) <;> (repeat' (with_reducible first | refine And.intro ?_ ?_ | intro _)))
        exact e_again ⟨(i + 1, _), by omega, hI.last hil⟩ (by dsimp only; omega) zSub rfl (fun _ h => h)
    · have : i = a.length := by omega
      subst this
      all_goals ((try refine zR ?_) <;> (repeat' (with_reducible first | refine And.intro ?_ ?_ | intro _)))
      all_goals (first | (exfalso; omega) | skip)
      exact e_out ⟨o, hO⟩ zSub rfl (fun _ h => by cases h)
  · rintro ⟨o, hO⟩
    dsimp only at hO ⊢
    all_goals ((try refine zS ?_) <;> (repeat' (with_reducible first | refine And.intro ?_ ?_ | intro _)))
    refine c_draw ([11, 12], []) [oInt x vx mx, oInt y vy my] [0, 1, 2, 3, 4, 5, 6, 7, 8, 9, 10, 11, 12] (by kernel_rfl) (by kernel_rfl) ?_
    all_goals ((try refine zD ?_) <;> (repeat' (with_reducible first | refine And.intro ?_ ?_ | intro _)))
    refine l_freezeInts .head rfl ?_
    refine l_call rfl zEvs rfl (put_spec z n0 _ m0 r o hO.inr) zTake zFsub ?_
    rintro _ L' F' ⟨mag', rfl, rfl, rfl⟩
    all_goals ((try refine zD ?_) <;> (repeat' (with_reducible first | refine And.intro ?_ ?_ | intro _)))
    have e : sv (decide (decide (vx < 0) ≠ decide (vy < 0))) (vl 4294967296 o) = vx * vy := by
      rw [hO.val, List.take_length, ha.2.2, hb.2.2]
      conv => rhs; rw [← sv_abs_eq vx, ← sv_abs_eq vy]
      unfold sv
      generalize vx.natAbs = p
      generalize vy.natAbs = q
      by_cases h1 : vx < 0 <;> by_cases h2 : vy < 0 <;> simp [h1, h2, Int.neg_mul, Int.mul_neg]
    rw [e]
    exact e_res rfl zRes _ _ (fun _ h => h) (fun _ h => h.apart) (fsub_cons (.head _) fsub_nil) ⟨mag', rfl, rfl, rfl⟩
end Go.Proofs.YtbllgmcpebifhaaGreatDoor.K
