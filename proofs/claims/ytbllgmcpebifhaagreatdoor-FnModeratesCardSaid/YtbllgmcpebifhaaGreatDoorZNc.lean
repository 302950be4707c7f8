/- Go's math/bits.TrailingZeros32; large numbers: how many of the last bits are 0. -/
import Derived.Test.YtbllgmcpebifhaaGreatDoorZKo
import Derived.Test.YtbllgmcpebifhaaGreatDoorZJe
import Derived.Test.YtbllgmcpebifhaaGreatDoorZMi
import Derived.Lib.TrailingZeros
import Derived.Test.YtbllgmcpebifhaaGreatDoorZHb
import Derived.Test.YtbllgmcpebifhaaGreatDoorZJi

section
namespace Go.Proofs.YtbllgmcpebifhaaGreatDoor.K
open Go Go.RowKit
set_option linter.all false
set_option maxRecDepth 4000
set_option maxHeartbeats 1000000

theorem twos_odd (k m : Nat) : twos (2 ^ k * (2 * m + 1)) = k := by
  induction k with
  | zero =>
    rw [twos, Nat.pow_zero, Nat.one_mul]
    rw [dif_neg (by omega), if_pos (by omega)]
  | succ k ih =>
    have hp : 0 < 2 ^ k * (2 * m + 1) := Nat.mul_pos (Nat.pow_pos (by omega)) (by omega)
    have e : 2 ^ (k + 1) * (2 * m + 1) = 2 * (2 ^ k * (2 * m + 1)) := by rw [Nat.pow_succ, Nat.mul_comm (2 ^ k) 2, Nat.mul_assoc]
    rw [e, twos]
    rw [dif_neg (by omega), if_neg (by omega), show 2 * (2 ^ k * (2 * m + 1)) / 2 = 2 ^ k * (2 * m + 1) by omega, ih]
theorem twos_form {x : Nat} (hx : x ≠ 0) : ∃ m, x = 2 ^ twos x * (2 * m + 1) := by
  obtain ⟨h1, h2⟩ := twos_at hx
  refine ⟨x / 2 ^ twos x / 2, ?_⟩
  have h3 := Nat.div_add_mod x (2 ^ twos x)
  rw [h2, Nat.add_zero] at h3
  rw [show 2 * (x / 2 ^ twos x / 2) + 1 = x / 2 ^ twos x by omega]
  exact h3.symm
theorem ctz_twos (x : Nat) (h0 : x ≠ 0) (h : x < 4294967296) : Lib.ctz 32 x = twos x := by
  unfold Lib.ctz
  rw [if_neg h0]
  obtain ⟨m, hm, _⟩ := Lib.ctzFrom_spec 32 x (by omega) (by rw [show (2 : Nat) ^ 32 = 4294967296 by decide]; exact h)
  generalize Lib.ctzFrom 32 x = k at hm
  rw [hm, twos_odd]
theorem twos_shift (y : Nat) (hy : y ≠ 0) : twos (4294967296 * y) = 32 + twos y := by
  obtain ⟨m, hm⟩ := twos_form hy
  have e : 4294967296 * y = 2 ^ (32 + twos y) * (2 * m + 1) := by
    rw [Nat.pow_add, Nat.mul_assoc, ← hm]
  rw [e, twos_odd]
theorem twos_low (x y : Nat) (h0 : x ≠ 0) (h : x < 4294967296) : twos (x + 4294967296 * y) = twos x := by
  obtain ⟨m, hm⟩ := twos_form h0
  have hk : twos x < 32 := by
    have := twos_le h0
    exact (Nat.pow_lt_pow_iff_right (a := 2) (by omega)).1 (Nat.lt_of_le_of_lt this (by rw [show (2 : Nat) ^ 32 = 4294967296 by decide]; exact h))
  have e : x + 4294967296 * y = 2 ^ twos x * (2 * (m + 2 ^ (31 - twos x) * y) + 1) := by
    have e1 : (4294967296 : Nat) = 2 ^ twos x * (2 * 2 ^ (31 - twos x)) := by
      rw [← Nat.pow_succ', ← Nat.pow_add, show twos x + (31 - twos x + 1) = 32 by omega]
    generalize hK : 2 ^ twos x = K at hm e1
    generalize 2 ^ (31 - twos x) = J at e1
    conv => lhs; rw [hm, e1]
    rw [Nat.mul_assoc, Nat.mul_assoc, ← Nat.mul_add]
    congr 1
    rw [Nat.mul_add]; omega
  rw [e, twos_odd]

/-- The table of the lowest bits stands. -/
def fTz : Fact := ⟨fun w M => (∀ j, j < 32 → w.cell? ⟨1, j, none⟩ = some (.int .u8 ((Lib.deBruijn32tab.getD j 0 : Nat) : Int))) ∧ 1 < w.heap.size ∧ ¬ M 1, fun {w M w' M'} h hl => by
  obtain ⟨h1, h2, h3⟩ := h
  refine ⟨fun j hj => ?_, Nat.lt_of_lt_of_le h2 hl.size, fun hm => h3 (hl.mine _ h2 hm)⟩
  have := h1 j hj
  unfold World.cell? at this ⊢
  rw [hl.block _ h2 h3]
  exact this⟩
section
variable {G : Ctx} {n : Nat} {ops : Array Oper} {Q : Post} {rest : List Oper} {m : Regs} {L : List Own} {F : List Fact}
variable {d : Nat} {ty : TypeId} {pos : String} {af : Array Edge} {g : Option (Nat × Bool)}
theorem l_indexTz {P : Program} {t e : TypeId} {len : Nat} {z : Value} {by' : Nat} [u : Und P t (.array len e)] [f : Inf P e z 1 by'] {i : Operand} {k : IntKind} {q : Int} {gl : Nat} (j : Nat) (hw : wantG ops m g = some true) (hi : ev m i = some (.int k q)) (hd : Nat.blt d n = true)
    (hq : q = (j : Int)) (hj : j < len) (h : RunL G n P ops Q rest ((d, .pointer (some ⟨gl, j, none⟩)) :: m) L F) : RunL G n P ops Q (⟨some d, .indexAddr t (.global gl) i, ty, pos, af, g⟩ :: rest) m L F :=
  l_val _ hw hd (fun a w st => by
    subst hq
    have hx : a.eval (.global gl) = .pointer (some ⟨gl, 0, none⟩) := rfl
    have h1 : (0 : Int) ≤ (j : Int) ∧ (j : Int) < (len : Int) := by omega
    simp [execOp, hx, st.env.eval hi, Instr.indexAt, asIntOf, run_underlying u.out, run_sizeOf f, Instr.sureAddr, hj, add_at]) h
theorem l_loadTz {P : Program} {t : TypeId} {D : TypeDesc} [u : Und P t D] {x : Operand} {j : Nat} (hw : wantG ops m g = some true) (hx : ev m x = some (.pointer (some ⟨1, j, none⟩))) (hF : fTz ∈ F) (hj : j < 32) (hD : aggD D = false) (hd : Nat.blt d n = true)
    (h : RunL G n P ops Q rest ((d, .int .u8 ((Lib.deBruijn32tab.getD j 0 : Nat) : Int)) :: m) L F) : RunL G n P ops Q (⟨some d, .load t x, ty, pos, af, g⟩ :: rest) m L F :=
  l_val _ hw hd (fun a w st => by
    have hc := (st.facts _ hF).1 j hj
    simp [execOp, st.env.eval hx, Instr.loadAt, Instr.sureAddr, loadVar, run_isAgg u, hD, load, Sem.run, hc]) h
theorem l_shr27 {P : Program} {t yt : TypeId} {x y : Operand} {k k' : IntKind} {p q : Int} (hw : wantG ops m g = some true) (hx : ev m x = some (.int k p)) (hy : ev m y = some (.int k' q)) (hd : Nat.blt d n = true) (hq : q = 27) (hk : 27 ≤ k.bits)
    (h : RunL G n P ops Q rest ((d, .int k (p / 134217728)) :: m) L F) : RunL G n P ops Q (⟨some d, .binOp .shr t x y yt, ty, pos, af, g⟩ :: rest) m L F := by
  subst hq
  refine l_shr hw hx hy hd (by decide) ?_ h
  rw [show (27 : Int).toNat = 27 from rfl, Nat.min_eq_left hk]
  exact Int.fdiv_eq_ediv_of_nonneg _ (by decide)
end
theorem TrailingZeros32_spec (x : Nat) (h0 : x ≠ 0) (hx : x < 4294967296) : Spec Tryz.prog 220 [.int .u32 (x : Int)] [] [fTz] (Gives (.int .i64 (twos x : Int))) := by
  refine enter Tryz.func220 Tryz.ntmps220 rfl (by kernel_rfl) zCon rfl fun G => ?_
  obtain ⟨hlow, hk⟩ := Lib.lowest_bit 32 x h0 (by rw [show (2 : Nat) ^ 32 = 4294967296 by decide]; exact hx)
  rw [ctz_twos x h0 hx] at hlow hk
  obtain ⟨hi, htab⟩ := Lib.deBruijn32_at _ hk
  have b1 : bits .and .u32 (x : Int) ((0 - (x : Int)) % 4294967296) = ((2 ^ twos x : Nat) : Int) := by
    have e1 : (0 - (x : Int)) % 4294967296 = ((4294967296 - x : Nat) : Int) := by omega
    rw [e1, u32_and_nat x _ hx (by omega)]
    exact congrArg _ hlow
  obtain ⟨idx, hidx⟩ : ∃ idx, idx = 2 ^ twos x * 125613361 % 4294967296 / 134217728 := ⟨_, rfl⟩
  rw [← hidx] at hi htab
  all_goals ((try refine zR2 ?_) <;> (repeat' (with_reducible first | refine And.intro ?_ ?_ | intro _)))
  all_goals (first | (exfalso; omega) | skip)
  refine l_shr27 rfl rfl rfl rfl rfl (by decide) ?_
  refine l_indexTz idx rfl rfl rfl (by rw [hidx]; generalize 2 ^ twos x = y; omega) hi ?_
  refine l_loadTz rfl rfl (.head _) hi rfl rfl ?_
  rw [htab]
  clear htab hidx b1 hlow
  all_goals ((try refine zR2 ?_) <;> (repeat' (with_reducible first | refine And.intro ?_ ?_ | intro _)))
  (refine e_gives rfl zRes ?_; first | rfl | (simp [retVal, *]; done) | (simp_all [retVal]; done) | (simp only [retVal]))
end Go.Proofs.YtbllgmcpebifhaaGreatDoor.K
end

section
/- Large numbers: how many of the last bits are 0, Rsh of any, shifts, order, one bit. -/
namespace Go.Proofs.YtbllgmcpebifhaaGreatDoor.K
open Go Go.RowKit
set_option linter.all false
set_option maxRecDepth 4000
set_option maxHeartbeats 1000000
set_option exponentiation.threshold 40000

theorem twos_shifts (y : Nat) (hy : y ≠ 0) : ∀ i : Nat, twos (4294967296 ^ i * y) = 32 * i + twos y
  | 0 => by simp
  | i + 1 => by
    have hp : 4294967296 ^ i * y ≠ 0 := Nat.mul_ne_zero (Nat.pos_iff_ne_zero.1 (Nat.pow_pos (by omega))) hy
    rw [Nat.pow_succ', Nat.mul_assoc, twos_shift _ hp, twos_shifts y hy i]; omega
theorem TrailingZeroBits_spec (x : Nat) (v : Int) (mx : Value) (R : List Own) (hx : oInt x v mx ∈ R) (hv : v.natAbs < 4294967296 ^ 1000) :
    Spec Tryz.prog 160 [ptr x] R [fDig mx v.natAbs, fTz] (PVal (.int .u64 (twos v.natAbs : Int)) R) := by
  refine enter Tryz.func160 Tryz.ntmps160 rfl (by kernel_rfl) zCon rfl fun G => ?_
  refine c_dig (mag := mx) zMem fun d hd => ?_
  refine c_isList (v := mx) zMem fun hsl => ?_
  have hdl := hd.len hv
  have hval := hd.2.2
  clear hv
  all_goals ((try refine zR2 ?_) <;> (repeat' (with_reducible first | refine And.intro ?_ ?_ | intro _)))
  refine c_while (ι := { i : Nat // i ≤ d.length ∧ v.natAbs = 4294967296 ^ i * vl 4294967296 (d.drop i) }) (κ := { u : Unit // twos v.natAbs = 0 })
    (fun i => [(10, .int .i64 (i.1 : Int)), (9, .int .i64 (d.length : Int)), (8, mx)]) (fun _ => R) (fun _ => [fList 1 (rInt .u32) mx d, fTz]) (fun i => d.length - i.1)
    (fun _ => []) (fun _ => R) (fun _ => []) ⟨0, Nat.zero_le _, by rw [List.drop_zero, Nat.pow_zero, Nat.one_mul, hval]⟩ (fun _ _ s => s.start zSub zRfl zFsub) ?_ ?_
  · rintro ⟨i, hi, hvi⟩
    dsimp only at hi hvi ⊢
    by_cases hil : i < d.length
    · have hxd := hd.1 _ (List.getElem_mem hil)
      have hst : vl 4294967296 (d.drop i) = d[i].toNat + 4294967296 * vl 4294967296 (d.drop (i + 1)) := by rw [List.drop_eq_getElem_cons hil]; rfl
      have hget : d[i]? = some d[i] := List.getElem?_eq_getElem hil
      rw [hst] at hvi
      clear hst
      revert hxd hvi hget
      generalize d[i] = y
      intro hvi hxd hget
      by_cases hy0 : y = 0
      · subst hy0
        all_goals ((try refine zR2 ?_) <;> (repeat' (with_reducible first | refine And.intro ?_ ?_ | intro _)))
        all_goals first | (exfalso; contradiction) | (exfalso; omega) | skip
        refine e_again ⟨i + 1, hil, ?_⟩ (by dsimp only; omega) zSub rfl zFsub
        rw [hvi, Nat.pow_succ, Nat.mul_assoc]; simp
      · obtain ⟨yn, rfl⟩ := Int.eq_ofNat_of_zero_le hxd.1
        rw [Int.toNat_natCast] at hvi
        have htz := TrailingZeros32_spec yn (by omega) (by omega)
        have htw : twos v.natAbs = 32 * i + twos yn := by
          rw [hvi, twos_shifts _ (by omega), twos_low _ _ (by omega) (by omega)]
        have hlt : twos yn ≤ 32 := twos_blen (by rw [show (2 : Nat) ^ 32 = 4294967296 by decide]; omega)
        clear hvi hval
        all_goals (((try refine zR2 ?_) <;> (repeat' (with_reducible first | refine And.intro ?_ ?_ | intro _))) <;> (repeat' ((first | ((with_reducible apply l_callP); exact rfl; exact zEvs; exact rfl; (with_reducible apply htz); (case hF => exact zFsub); (try any_goals (refine propId ?_; omega)))) <;> ((try refine zR2 ?_) <;> (repeat' (with_reducible first | refine And.intro ?_ ?_ | intro _))))))
        all_goals first | (exfalso; contradiction) | (exfalso; omega) | skip
        refine e_res rfl zRes _ [] (fun _ h => h) (fun _ h => h.apart) fsub_nil ⟨?_, rfl, rfl⟩
        simp only [retVal]
        congr 1
        omega
    · all_goals ((try refine zR2 ?_) <;> (repeat' (with_reducible first | refine And.intro ?_ ?_ | intro _)))
      all_goals (first | (exfalso; omega) | skip)
      have hz : v.natAbs = 0 := by rw [hvi, List.drop_eq_nil_of_le (by omega)]; simp [vl]
      have htw : twos v.natAbs = 0 := by rw [hz, twos]; simp
      exact e_out ⟨(), htw⟩ zSub rfl zFsub
  · rintro ⟨_, htw⟩
    rw [htw]
    all_goals ((try refine zR2 ?_) <;> (repeat' (with_reducible first | refine And.intro ?_ ?_ | intro _)))
    exact e_res rfl zRes _ [] (fun _ h => h) (fun _ h => h.apart) fsub_nil ⟨rfl, rfl, rfl⟩

/-- A number times a power of two, rounded down. -/
def shl (v k : Int) : Int := if 0 ≤ k then v * 2 ^ k.toNat else v / 2 ^ (-k).toNat
end Go.Proofs.YtbllgmcpebifhaaGreatDoor.K
end
