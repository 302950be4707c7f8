/- Go's math/bits.TrailingZeros32; large numbers: how many of the last bits are 0. -/
import Derived.Test.YtbllgmcpebifhaaGreatDoorZKo
import Derived.Test.YtbllgmcpebifhaaGreatDoorZJe
import Derived.Test.YtbllgmcpebifhaaGreatDoorZMi
import Derived.Lib.TrailingZeros
import Derived.Test.YtbllgmcpebifhaaGreatDoorZHb
import Derived.Test.YtbllgmcpebifhaaGreatDoorZJi

section
namespace Go.Proofs.YtbllgmcpebifhaaGreatDoor.K
open Go Go.RowKit
set_option linter.all false
set_option maxRecDepth 4000
set_option maxHeartbeats 1000000

theorem twos_odd (k m : Nat) : twos (2 ^ k * (2 * m + 1)) = k := by
  induction k with
  | zero =>
    rw [twos, Nat.pow_zero, Nat.one_mul]
    rw [dif_neg (by omega), if_pos (by omega)]
  | succ k ih =>
    have hp : 0 < 2 ^ k * (2 * m + 1) := Nat.mul_pos (Nat.pow_pos (by omega)) (by omega)
    have e : 2 ^ (k + 1) * (2 * m + 1) = 2 * (2 ^ k * (2 * m + 1)) := by rw [Nat.pow_succ, Nat.mul_comm (2 ^ k) 2, Nat.mul_assoc]
    rw [e, twos]
    rw [dif_neg (by omega), if_neg (by omega), show 2 * (2 ^ k * (2 * m + 1)) / 2 = 2 ^ k * (2 * m + 1) by omega, ih]
theorem twos_form {x : Nat} (hx : x ≠ 0) : ∃ m, x = 2 ^ twos x * (2 * m + 1) := by
  obtain ⟨h1, h2⟩ := twos_at hx
  refine ⟨x / 2 ^ twos x / 2, ?_⟩
  have h3 := Nat.div_add_mod x (2 ^ twos x)
  rw [h2, Nat.add_zero] at h3
  rw [show 2 * (x / 2 ^ twos x / 2) + 1 = x / 2 ^ twos x by omega]
  exact h3.symm
theorem ctz_twos (x : Nat) (h0 : x ≠ 0) (h : x < 4294967296) : Lib.ctz 32 x = twos x := by
  unfold Lib.ctz
  rw [if_neg h0]
  obtain ⟨m, hm, _⟩ := Lib.ctzFrom_spec 32 x (by omega) (by rw [show (2 : Nat) ^ 32 = 4294967296 by decide]; exact h)
  generalize Lib.ctzFrom 32 x = k at hm
  rw [hm, twos_odd]
theorem twos_shift (y : Nat) (hy : y ≠ 0) : twos (4294967296 * y) = 32 + twos y := by
  obtain ⟨m, hm⟩ := twos_form hy
  have e : 4294967296 * y = 2 ^ (32 + twos y) * (2 * m + 1) := by
    rw [Nat.pow_add, Nat.mul_assoc, ← hm]
  rw [e, twos_odd]
theorem twos_low (x y : Nat) (h0 : x ≠ 0) (h : x < 4294967296) : twos (x + 4294967296 * y) = twos x := by
  obtain ⟨m, hm⟩ := twos_form h0
  have hk : twos x < 32 := by
    have := twos_le h0
    exact (Nat.pow_lt_pow_iff_right (a := 2) (by omega)).1 (Nat.lt_of_le_of_lt this (by rw [show (2 : Nat) ^ 32 = 4294967296 by decide]; exact h))
  have e : x + 4294967296 * y = 2 ^ twos x * (2 * (m + 2 ^ (31 - twos x) * y) + 1) := by
    have e1 : (4294967296 : Nat) = 2 ^ twos x * (2 * 2 ^ (31 - twos x)) := by
      rw [← Nat.pow_succ', ← Nat.pow_add, show twos x + (31 - twos x + 1) = 32 by omega]
    generalize hK : 2 ^ twos x = K at hm e1
    generalize 2 ^ (31 - twos x) = J at e1
    conv => lhs; rw [hm, e1]
    rw [Nat.mul_assoc, Nat.mul_assoc, ← Nat.mul_add]
    congr 1
    rw [Nat.mul_add]; omega
  rw [e, twos_odd]

/-- The table of the lowest bits stands. -/
def fTz : Fact := ⟨fun w M => (∀ j, j < 32 → w.cell? ⟨1, j, none⟩ = some (.int .u8 ((Lib.deBruijn32tab.getD j 0 : Nat) : Int))) ∧ 1 < w.heap.size ∧ ¬ M 1, fun {w M w' M'} h hl => by
  obtain ⟨h1, h2, h3⟩ := h
  refine ⟨fun j hj => ?_, Nat.lt_of_lt_of_le h2 hl.size, fun hm => h3 (hl.mine _ h2 hm)⟩
  have := h1 j hj
  unfold World.cell? at this ⊢
  rw [hl.block _ h2 h3]
  exact this⟩
section
variable {G : Ctx} {n : Nat} {ops : Array Oper} {Q : Post} {rest : List Oper} {m : Regs} {L : List Own} {F : List Fact}
variable {d : Nat} {ty : TypeId} {pos : String} {af : Array Edge} {g : Option (Nat × Bool)}
theorem l_indexTz {P : Program} {t e : TypeId} {len : Nat} {z : Value} {by' : Nat} [u : Und P t (.array len e)] [f : Inf P e z 1 by'] {i : Operand} {k : IntKind} {q : Int} {gl : Nat} (j : Nat) (hw : wantG ops m g = some true) (hi : ev m i = some (.int k q)) (hd : Nat.blt d n = true)
    (hq : q = (j : Int)) (hj : j < len) (h : RunL G n P ops Q rest ((d, .pointer (some ⟨gl, j, none⟩)) :: m) L F) : RunL G n P ops Q (⟨some d, .indexAddr t (.global gl) i, ty, pos, af, g⟩ :: rest) m L F :=
  l_val _ hw hd (fun a w st => by
    subst hq
    have hx : a.eval (.global gl) = .pointer (some ⟨gl, 0, none⟩) := rfl
    have h1 : (0 : Int) ≤ (j : Int) ∧ (j : Int) < (len : Int) := by omega
    simp [execOp, hx, st.env.eval hi, Instr.indexAt, asIntOf, run_underlying u.out, run_sizeOf f, Instr.sureAddr, hj, add_at]) h
theorem l_loadTz {P : Program} {t : TypeId} {D : TypeDesc} [u : Und P t D] {x : Operand} {j : Nat} (hw : wantG ops m g = some true) (hx : ev m x = some (.pointer (some ⟨1, j, none⟩))) (hF : fTz ∈ F) (hj : j < 32) (hD : aggD D = false) (hd : Nat.blt d n = true)
    (h : RunL G n P ops Q rest ((d, .int .u8 ((Lib.deBruijn32tab.getD j 0 : Nat) : Int)) :: m) L F) : RunL G n P ops Q (⟨some d, .load t x, ty, pos, af, g⟩ :: rest) m L F :=
  l_val _ hw hd (fun a w st => by
    have hc := (st.facts _ hF).1 j hj
    simp [execOp, st.env.eval hx, Instr.loadAt, Instr.sureAddr, loadVar, run_isAgg u, hD, load, Sem.run, hc]) h
theorem l_shr27 {P : Program} {t yt : TypeId} {x y : Operand} {k k' : IntKind} {p q : Int} (hw : wantG ops m g = some true) (hx : ev m x = some (.int k p)) (hy : ev m y = some (.int k' q)) (hd : Nat.blt d n = true) (hq : q = 27) (hk : 27 ≤ k.bits)
    (h : RunL G n P ops Q rest ((d, .int k (p / 134217728)) :: m) L F) : RunL G n P ops Q (⟨some d, .binOp .shr t x y yt, ty, pos, af, g⟩ :: rest) m L F := by
  subst hq
  refine l_shr hw hx hy hd (by decide) ?_ h
  rw [show (27 : Int).toNat = 27 from rfl, Nat.min_eq_left hk]
  exact Int.fdiv_eq_ediv_of_nonneg _ (by decide)
end
theorem TrailingZeros32_spec (x : Nat) (h0 : x ≠ 0) (hx : x < 4294967296) : Spec Tryz.prog 220 [.int .u32 (x : Int)] [] [fTz] (Gives (.int .i64 (twos x : Int))) := by
  refine enter Tryz.func220 Tryz.ntmps220 rfl (by kernel_rfl) zCon rfl fun G => ?_
  obtain ⟨hlow, hk⟩ := Lib.lowest_bit 32 x h0 (by rw [show (2 : Nat) ^ 32 = 4294967296 by decide]; exact hx)
  rw [ctz_twos x h0 hx] at hlow hk
  obtain ⟨hi, htab⟩ := Lib.deBruijn32_at _ hk
  have b1 : bits .and .u32 (x : Int) ((0 - (x : Int)) % 4294967296) = ((2 ^ twos x : Nat) : Int) := by
    have e1 : (0 - (x : Int)) % 4294967296 = ((4294967296 - x : Nat) : Int) := by omega
    rw [e1, u32_and_nat x _ hx (by omega)]
    exact congrArg _ hlow
  obtain ⟨idx, hidx⟩ : ∃ idx, idx = 2 ^ twos x * 125613361 % 4294967296 / 134217728 := ⟨_, rfl⟩
  rw [← hidx] at hi htab
  all_goals ((try refine zR2 ?_) <;> (repeat' (with_reducible first | refine And.intro ?_ ?_ | intro _)))
  all_goals (first | (exfalso; omega) | skip)
  refine l_shr27 rfl rfl rfl rfl rfl (by decide) ?_
  refine l_indexTz idx rfl rfl rfl (by rw [hidx]; generalize 2 ^ twos x = y; omega) hi ?_
  refine l_loadTz rfl rfl (.head _) hi rfl rfl ?_
  rw [htab]
  clear htab hidx b1 hlow
  all_goals ((try refine zR2 ?_) <;> (repeat' (with_reducible first | refine And.intro ?_ ?_ | intro _)))
  (refine e_gives rfl zRes ?_; first | rfl | (simp [retVal, *]; done) | (simp_all [retVal]; done) | (simp only [retVal]))
end Go.Proofs.YtbllgmcpebifhaaGreatDoor.K
end

section
/- Large numbers: how many of the last bits are 0, Rsh of any, shifts, order, one bit. -/
namespace Go.Proofs.YtbllgmcpebifhaaGreatDoor.K
open Go Go.RowKit
set_option linter.all false
set_option maxRecDepth 4000
set_option maxHeartbeats 1000000
set_option exponentiation.threshold 40000

theorem twos_shifts (y : Nat) (hy : y ≠ 0) : ∀ i : Nat, twos (4294967296 ^ i * y) = 32 * i + twos y
  | 0 => by simp
  | i + 1 => by
    have hp : 4294967296 ^ i * y ≠ 0 := Nat.mul_ne_zero (Nat.pos_iff_ne_zero.1 (Nat.pow_pos (by omega))) hy
    rw [Nat.pow_succ', Nat.mul_assoc, twos_shift _ hp, twos_shifts y hy i]; omega
theorem TrailingZeroBits_spec (x : Nat) (v : Int) (mx : Value) (R : List Own) (hx : oInt x v mx ∈ R) (hv : v.natAbs < 4294967296 ^ 1000) :
    Spec Tryz.prog 160 [ptr x] R [fDig mx v.natAbs, fTz] (PVal (.int .u64 (twos v.natAbs : Int)) R) := by
  refine enter Tryz.func160 Tryz.ntmps160 rfl (by kernel_rfl) zCon rfl fun G => ?_
  refine c_dig (mag := mx) zMem fun d hd => ?_
  refine c_isList (v := mx) zMem fun hsl => ?_
  have hdl := hd.len hv
  have hval := hd.2.2
  clear hv
  all_goals ((try refine zR2 ?_) <;> (repeat' (with_reducible first | refine And.intro ?_ ?_ | intro _)))
  refine c_while (ι := { i : Nat // i ≤ d.length ∧ v.natAbs = 4294967296 ^ i * vl 4294967296 (d.drop i) }) (κ := { u : Unit // twos v.natAbs = 0 })
    (fun i => [(10, .int .i64 (i.1 : Int)), (9, .int .i64 (d.length : Int)), (8, mx)]) (fun _ => R) (fun _ => [fList 1 (rInt .u32) mx d, fTz]) (fun i => d.length - i.1)
    (fun _ => []) (fun _ => R) (fun _ => []) ⟨0, Nat.zero_le _, by rw [List.drop_zero, Nat.pow_zero, Nat.one_mul, hval]⟩ (fun _ _ s => s.start zSub zRfl zFsub) ?_ ?_
  · rintro ⟨i, hi, hvi⟩
    dsimp only at hi hvi ⊢
    by_cases hil : i < d.length
    · have hxd := hd.1 _ (List.getElem_mem hil)
      have hst : vl 4294967296 (d.drop i) = d[i].toNat + 4294967296 * vl 4294967296 (d.drop (i + 1)) := by rw [List.drop_eq_getElem_cons hil]; rfl
      have hget : d[i]? = some d[i] := List.getElem?_eq_getElem hil
      rw [hst] at hvi
      clear hst
      revert hxd hvi hget
      generalize d[i] = y
      intro hvi hxd hget
      by_cases hy0 : y = 0
      · subst hy0
        all_goals ((try refine zR2 ?_) <;> (repeat' (with_reducible first | refine And.intro ?_ ?_ | intro _)))
        all_goals first | (exfalso; contradiction) | (exfalso; omega) | skip
        refine e_again ⟨i + 1, hil, ?_⟩ (by dsimp only; omega) zSub rfl zFsub
        rw [hvi, Nat.pow_succ, Nat.mul_assoc]; simp
      · obtain ⟨yn, rfl⟩ := Int.eq_ofNat_of_zero_le hxd.1
        rw [Int.toNat_natCast] at hvi
        have htz := TrailingZeros32_spec yn (by omega) (by omega)
        have htw : twos v.natAbs = 32 * i + twos yn := by
          rw [hvi, twos_shifts _ (by omega), twos_low _ _ (by omega) (by omega)]
        have hlt : twos yn ≤ 32 := twos_blen (by rw [show (2 : Nat) ^ 32 = 4294967296 by decide]; omega)
        clear hvi hval
        all_goals (((try refine zR2 ?_) <;> (repeat' (with_reducible first | refine And.intro ?_ ?_ | intro _))) <;> (repeat' ((first | ((with_reducible apply l_callP); exact rfl; exact zEvs; exact rfl; (with_reducible apply htz); (case hF => exact zFsub); (try any_goals (refine propId ?_; omega)))) <;> ((try refine zR2 ?_) <;> (repeat' (with_reducible first | refine And.intro ?_ ?_ | intro _))))))
        all_goals first | (exfalso; contradiction) | (exfalso; omega) | skip
        refine e_res rfl zRes _ [] (fun _ h => h) (fun _ h => h.apart) fsub_nil ⟨?_, rfl, rfl⟩
        simp only [retVal]
        congr 1
        omega
    · all_goals ((try refine zR2 ?_) <;> (repeat' (with_reducible first | refine And.intro ?_ ?_ | intro _)))
      all_goals (first | (exfalso; omega) | skip)
      have hz : v.natAbs = 0 := by rw [hvi, List.drop_eq_nil_of_le (by omega)]; simp [vl]
      have htw : twos v.natAbs = 0 := by rw [hz, twos]; simp
      exact e_out ⟨(), htw⟩ zSub rfl zFsub
  · rintro ⟨_, htw⟩
    rw [htw]
    all_goals ((try refine zR2 ?_) <;> (repeat' (with_reducible first | refine And.intro ?_ ?_ | intro _)))
    exact e_res rfl zRes _ [] (fun _ h => h) (fun _ h => h.apart) fsub_nil ⟨rfl, rfl, rfl⟩

theorem RshN_spec (z x : Nat) (v : Int) (n0 : Bool) (m0 mx : Value) (R : List Own) (q s : Nat) (hs : s < 32) (hq : q ≤ 1000) (hx : oInt x v mx ∈ oBig z n0 m0 :: R) (hv : v.natAbs < 4294967296 ^ 990) (h0 : v < 0) :
    Spec Tryz.prog 182 [ptr z, ptr x, .int .u64 ((32 * q + s : Nat) : Int)] (oBig z n0 m0 :: R) [fDig mx v.natAbs, fTz] (PInt z (v / 2 ^ (32 * q + s)) R) := by
  refine enter Tryz.func182 Tryz.ntmps182 rfl (by kernel_rfl) zCon rfl fun G => ?_
  refine c_dig (mag := mx) zMem fun d hd => ?_
  refine c_isList (v := mx) zMem fun hsl => ?_
  have hdl := hd.len hv
  have hv1000 : v.natAbs < 4294967296 ^ 1000 := Nat.lt_of_lt_of_le hv (Nat.pow_le_pow_right (by omega) (by omega))
  have h1 : ((32 * q + s : Nat) : Int).tdiv 32 = (q : Int) := by rw [Int.tdiv_eq_ediv_of_nonneg (by omega)]; omega
  have h2 : ((32 * q + s : Nat) : Int).tmod 32 = (s : Int) := by rw [Int.tmod_eq_emod_of_nonneg (by omega)]; omega
  have hneg : decide (v < 0) = true := decide_eq_true (by omega)
  have hx' : oBig x true mx ∈ oBig z n0 m0 :: R := by rw [← hneg]; exact hx
  all_goals ((try refine zR2 ?_) <;> (repeat' (with_reducible first | refine And.intro ?_ ?_ | intro _)))
  refine l_callVA rfl zEvs rfl (TrailingZeroBits_spec x v mx _ hx hv1000) zFsub ?_
  have htl : twos v.natAbs ≤ 32000 := twos_blen (by rw [show (4294967296 : Nat) = 2 ^ 32 by decide, ← Nat.pow_mul] at hv1000; exact hv1000)
  have hlost : ((twos v.natAbs : Int) < ((32 * q + s : Nat) : Int)) ↔ v.natAbs % 2 ^ (32 * q + s) ≠ 0 := by
    have h3 : v.natAbs ≠ 0 := by omega
    obtain ⟨m, hm⟩ := twos_form h3
    generalize hT : twos v.natAbs = T at hm
    constructor
    · intro hlt hmod
      have hlt : T < 32 * q + s := by omega
      rw [hm, show 32 * q + s = T + (32 * q + s - T) by omega, Nat.pow_add, Nat.mul_mod_mul_left] at hmod
      have h4 := (Nat.mul_eq_zero.1 hmod).resolve_left (Nat.pos_iff_ne_zero.1 (Nat.pow_pos (by omega)))
      have h5 : (2 * m + 1) % 2 = 0 := by
        have h6 : (2 * m + 1) % 2 ^ (32 * q + s - T) % 2 = 0 := by rw [h4]
        rwa [Nat.mod_mod_of_dvd _ (by obtain ⟨j, hj⟩ : ∃ j, 32 * q + s - T = j + 1 := ⟨32 * q + s - T - 1, by omega⟩
                                      rw [hj, Nat.pow_succ]; exact Nat.dvd_mul_left _ _)] at h6
      omega
    · intro hmod
      rcases Nat.lt_or_ge T (32 * q + s) with h | h
      · omega
      · exfalso; apply hmod
        rw [hm, show T = (32 * q + s) + (T - (32 * q + s)) by omega, Nat.pow_add, Nat.mul_assoc]
        exact Nat.mul_mod_right _ _
  obtain ⟨lo, hlo⟩ : ∃ lo, lo = decide ((twos v.natAbs : Int) < ((32 * q + s : Nat) : Int)) := ⟨_, rfl⟩
  have hlo' : lo = true ↔ v.natAbs % 2 ^ (32 * q + s) ≠ 0 := by rw [hlo, decide_eq_true_iff]; exact hlost
  have hlo2 : Value.bool (decide ((twos v.natAbs : Int) < ((32 * q + s : Nat) : Int))) = Value.bool lo := by rw [hlo]
  clear hx hlo hlost hv hv1000
  all_goals ((try refine zR2 ?_) <;> (repeat' (with_reducible first | refine And.intro ?_ ?_ | intro _)))
  rename_i r0
  refine c_while (ι := { p : Nat × Value × List Int // q ≤ p.1 ∧ p.2.2 ++ rshl s (d.drop p.1) = rshl s (d.drop q) }) (κ := Value)
    (fun p => [(10, .int .i64 (p.1.1 : Int)), (8, p.1.2.1), (7, .bool lo), (2, .int .u64 ((32 * q + s : Nat) : Int)), (1, ptr x), (0, ptr z)]) (fun p => .row p.1.2.1 220 1 p.1.2.2.length (p.1.2.2.map (Value.int .u32)) :: oBig z n0 m0 :: R) (fun _ => [fList 1 (rInt .u32) mx d]) (fun p => d.length - p.1.1)
    (fun r => [(8, r), (7, .bool lo), (1, ptr x), (0, ptr z)]) (fun r => .row r 220 1 (rshl s (d.drop q)).length ((rshl s (d.drop q)).map (Value.int .u32)) :: oBig z n0 m0 :: R) (fun _ => []) ⟨(q, r0, []), Nat.le_refl _, rfl⟩ (fun _ _ s => s.start zSub zRfl zFsub) ?_ ?_
  · rintro ⟨⟨i, r, o⟩, hqi, ho⟩
    dsimp only at hqi ho ⊢
    have hol : o.length ≤ 1000 := by
      have := congrArg List.length ho
      rw [List.length_append, rshl_len, rshl_len] at this
      simp at this
      omega
    by_cases hil : i < d.length
    · have hxd := hd.1 _ (List.getElem_mem hil)
      have hyd := InR.headD (hd.1.drop (i + 1)) (by omega)
      all_goals ((try refine zS2 ?_) <;> (repeat' (with_reducible first | refine And.intro ?_ ?_ | intro _)))
      refine c_dec rfl (fun _ => ?_) (fun h => absurd h (by omega))
      all_goals ((try refine zS2 ?_) <;> (repeat' (with_reducible first | refine And.intro ?_ ?_ | intro _)))
      refine c_mid (κ := Unit) (fun _ => [(11, .int .u64 (d[i] + (d.drop (i + 1)).headD 0 * 4294967296)), (10, .int .i64 (i : Int)), (8, r), (7, .bool lo), (2, .int .u64 ((32 * q + s : Nat) : Int)), (1, ptr x), (0, ptr z)]) (fun _ => .row r 220 1 o.length (o.map (Value.int .u32)) :: oBig z n0 m0 :: R) (fun _ => [fList 1 (rInt .u32) mx d]) ?_ ?_
      · by_cases hi1 : i + 1 < d.length
        · have hy1 := hd.1 _ (List.getElem_mem hi1)
          have hh : (d.drop (i + 1)).headD 0 = d[i + 1] := by rw [List.drop_eq_getElem_cons hi1]; rfl
          have hget : d[i + 1]? = some d[i + 1] := List.getElem?_eq_getElem hi1
          rw [hh]
          revert hy1 hget
          generalize d[i + 1] = y
          intro hy1 hget
          have hor : bits .or .u64 d[i] (y * 4294967296) = d[i] + y * 4294967296 := or_apart64' 32 (by omega) (by omega) (by omega) (by omega)
          all_goals ((try refine zR2 ?_) <;> (repeat' (with_reducible first | refine And.intro ?_ ?_ | intro _)))
          all_goals (first | (exfalso; omega) | skip)
          exact e_out () zSub rfl (fun _ h => h)
        · have hh : (d.drop (i + 1)).headD 0 = 0 := by rw [List.drop_eq_nil_of_le (by omega)]; rfl
          rw [hh]
          all_goals ((try refine zR2 ?_) <;> (repeat' (with_reducible first | refine And.intro ?_ ?_ | intro _)))
          all_goals (first | (exfalso; omega) | skip)
          exact e_out () zSub rfl (fun _ h => h)
      · intro _
        all_goals ((try refine zR2 ?_) <;> (repeat' (with_reducible first | refine And.intro ?_ ?_ | intro _)))
        rename_i r'
        refine e_again ⟨(i + 1, r', o ++ [(d[i] + (d.drop (i + 1)).headD 0 * 4294967296) / 2 ^ s % 4294967296]), by dsimp only; omega, ?_⟩ (by dsimp only; omega) zSub (by simp) zFsub
        dsimp only
        rw [← ho, List.append_assoc, List.drop_eq_getElem_cons hil, rshl]
        rfl
    · all_goals ((try refine zR2 ?_) <;> (repeat' (with_reducible first | refine And.intro ?_ ?_ | intro _)))
      all_goals (first | (exfalso; omega) | skip)
      have hnil : d.drop i = [] := List.drop_eq_nil_of_le (by omega)
      rw [hnil, rshl, List.append_nil] at ho
      subst ho
      exact e_out r zSub rfl (fun _ h => by cases h)
  · intro r
    have hr := rshl_range s (d.drop q)
    have hvr := vl_rshl s (by omega) (d.drop q) (hd.1.drop q)
    rw [vl_drop_div _ (by omega) _ hd.1, hd.2.2, show (4294967296 : Nat) = 2 ^ 32 by decide, ← Nat.pow_mul, Nat.div_div_eq_div_mul, ← Nat.pow_add] at hvr
    have hol9 : (rshl s (d.drop q)).length ≤ 990 := by rw [rshl_len]; simp; omega
    revert hr hvr hol9
    generalize rshl s (d.drop q) = o
    intro hr hvr hol9
    have hfl : v / 2 ^ (32 * q + s) = -((vl 4294967296 o + (if lo then 1 else 0) : Nat) : Int) := by
      rw [hvr]
      have hp : 0 < 2 ^ (32 * q + s) := Nat.pow_pos (by omega)
      have h3 := Nat.div_add_mod v.natAbs (2 ^ (32 * q + s))
      have e : (2 : Int) ^ (32 * q + s) = ((2 ^ (32 * q + s) : Nat) : Int) := by simp
      rw [e]
      generalize 2 ^ (32 * q + s) = D at hp h3 hlo' ⊢
      generalize v.natAbs / D = Q at h3 ⊢
      have hr' : v.natAbs % D < D := Nat.mod_lt _ hp
      generalize v.natAbs % D = r at h3 hlo' hr' ⊢
      have hvv : v = -((D * Q + r : Nat) : Int) := by omega
      rw [hvv]
      cases lo with
      | true =>
        have hr0 : r ≠ 0 := hlo'.1 rfl
        rw [if_pos rfl]
        refine ((Int.ediv_emod_unique (r := ((D - r : Nat) : Int)) (by omega)).2 ⟨?_, by omega, by omega⟩).1
        rw [Int.mul_neg, ← Int.natCast_mul, Nat.mul_add, Nat.mul_one]
        generalize D * Q = DQ
        omega
      | false =>
        have hr0 : r = 0 := Decidable.of_not_not fun h => by have := hlo'.2 h; cases this
        rw [if_neg (by decide), hr0, Nat.add_zero, Nat.add_zero, Int.natCast_mul, ← Int.mul_neg, Int.mul_ediv_cancel_left _ (by omega)]
    have hsv : ∀ X : Nat, sv true X = -(X : Int) := fun X => rfl
    cases lo with
    | false =>
      all_goals ((try refine zR2 ?_) <;> (repeat' (with_reducible first | refine And.intro ?_ ?_ | intro _)))
      refine l_freezeInts (ik := .u32) (l := o) .head rfl ?_
      refine l_call rfl zEvs rfl (put_spec z n0 true m0 r o hr) zTake zFsub ?_
      rintro _ L' F' ⟨mag', rfl, rfl, rfl⟩
      all_goals ((try refine zR2 ?_) <;> (repeat' (with_reducible first | refine And.intro ?_ ?_ | intro _)))
      rw [hsv, show -((vl 4294967296 o : Nat) : Int) = v / 2 ^ (32 * q + s) by rw [hfl]; simp]
      exact e_res rfl zRes _ _ (fun _ h => h) (fun _ h => h.apart) (fsub_cons (.head _) fsub_nil) ⟨mag', rfl, rfl, rfl⟩
    | true =>
      all_goals ((try refine zR2 ?_) <;> (repeat' (with_reducible first | refine And.intro ?_ ?_ | intro _)))
      rename_i vo
      refine l_freezeInts (ik := .u32) (l := [1]) .head rfl ?_
      refine l_freezeInts (ik := .u32) (l := o) .head rfl ?_
      refine l_call rfl zEvs rfl (addDigits_spec r vo o [1] hr (fun y hy => by rw [List.mem_singleton.1 hy]; omega) (by omega) (by simp)) zTake zFsub ?_
      rintro rr L' F' ⟨ds, hds, hdv, rfl, rfl⟩
      refine l_isList (.head _) fun hsr => ?_
      have hd1 : vl 4294967296 ds = vl 4294967296 o + 1 := by rw [hdv]; simp [vl]
      all_goals ((try refine zR2 ?_) <;> (repeat' (with_reducible first | refine And.intro ?_ ?_ | intro _)))
      refine l_call rfl zEvs rfl (put_spec z n0 true m0 rr ds hds) zTake zFsub ?_
      rintro _ L' F' ⟨mag', rfl, rfl, rfl⟩
      all_goals ((try refine zR2 ?_) <;> (repeat' (with_reducible first | refine And.intro ?_ ?_ | intro _)))
      rw [hsv, show -((vl 4294967296 ds : Nat) : Int) = v / 2 ^ (32 * q + s) by rw [hfl, hd1]; simp]
      exact e_res rfl zRes _ _ (fun _ h => h) (fun _ h => h.apart) (fsub_cons (.head _) fsub_nil) ⟨mag', rfl, rfl, rfl⟩
/-- Rsh of any number. -/
theorem RshG_spec (z x : Nat) (v : Int) (n0 : Bool) (m0 mx : Value) (R : List Own) (n : Nat) (hn : n ≤ 32000) (hx : oInt x v mx ∈ oBig z n0 m0 :: R) (hv : v.natAbs < 4294967296 ^ 990) :
    Spec Tryz.prog 182 [ptr z, ptr x, .int .u64 (n : Int)] (oBig z n0 m0 :: R) [fDig mx v.natAbs, fTz] (PInt z (v / 2 ^ n) R) := by
  have e : n = 32 * (n / 32) + n % 32 := by omega
  rw [e]
  by_cases h0 : v < 0
  · exact RshN_spec z x v n0 m0 mx R (n / 32) (n % 32) (by omega) (by omega) hx hv h0
  · have h := Rsh_spec z x v n0 m0 mx R (n / 32) (n % 32) (by omega) (by omega) hx (Nat.lt_of_lt_of_le hv (Nat.pow_le_pow_right (by omega) (by omega))) (by omega)
    exact ⟨h.1, fun w X hX hL hF => h.2 w X hX hL fun φ hφ => hF φ (by rw [List.mem_singleton.1 hφ]; exact .head _)⟩
theorem LshG_spec (z x : Nat) (v : Int) (n0 : Bool) (m0 mx : Value) (R : List Own) (n : Nat) (hn : n ≤ 32000) (hx : oInt x v mx ∈ oBig z n0 m0 :: R) (hv : v.natAbs < 4294967296 ^ 1000) :
    Spec Tryz.prog 229 [ptr z, ptr x, .int .u64 (n : Int)] (oBig z n0 m0 :: R) [fDig mx v.natAbs] (PInt z (v * 2 ^ n) R) := by
  have h := Lsh_spec z x v n0 m0 mx R (n / 32) (n % 32) (by omega) (by omega) hx hv
  have e : 32 * (n / 32) + n % 32 = n := by omega
  rw [e] at h
  exact h
/-- A number times a power of two, rounded down. -/
def shl (v k : Int) : Int := if 0 ≤ k then v * 2 ^ k.toNat else v / 2 ^ (-k).toNat
/-- A new large number is handed back; R stays. -/
def PNew (v : Int) (R : List Own) (r : Value) (L' : List Own) (F' : List Fact) : Prop := ∃ z, PInt z v R r L' F'
theorem shifted_spec (x : Nat) (v k : Int) (mx : Value) (R : List Own) (hk : -32000 ≤ k ∧ k ≤ 32000) (hx : oInt x v mx ∈ R) (hv : v.natAbs < 4294967296 ^ 990) :
    Spec Tryz.prog 180 [ptr x, .int .i64 k] R [fDig mx v.natAbs, fTz] (PNew (shl v k) R) := by
  refine enter Tryz.func180 Tryz.ntmps180 rfl (by kernel_rfl) zCon rfl fun G => ?_
  have h1000 : v.natAbs < 4294967296 ^ 1000 := Nat.lt_of_lt_of_le hv (Nat.pow_le_pow_right (by omega) (by omega))
  by_cases h0 : 0 ≤ k
  · have e : shl v k = v * 2 ^ k.toNat := by unfold shl; rw [if_pos h0]
    rw [e]
    have hkn : k = (k.toNat : Int) := by omega
    all_goals ((try refine zR2 ?_) <;> (repeat' (with_reducible first | refine And.intro ?_ ?_ | intro _)))
    all_goals (first | (exfalso; omega) | skip)
    rename_i b
    have hL := LshG_spec b x v false (.slice none 0 0) mx R k.toNat (by omega) (.tail _ hx) h1000
    rw [← hkn] at hL
    clear hkn
    refine l_callIA rfl zEvs rfl hL zFsub fun mr => ?_
    all_goals ((try refine zR2 ?_) <;> (repeat' (with_reducible first | refine And.intro ?_ ?_ | intro _)))
    exact e_res rfl zRes _ _ (fun _ h => h) (fun _ h => h.apart) (fsub_cons (.head _) fsub_nil) ⟨b, mr, rfl, rfl, rfl⟩
  · have e : shl v k = v / 2 ^ (-k).toNat := by unfold shl; rw [if_neg h0]
    rw [e]
    have hkn : (((-k).toNat : Nat) : Int) = 0 - k := by omega
    all_goals ((try refine zR2 ?_) <;> (repeat' (with_reducible first | refine And.intro ?_ ?_ | intro _)))
    all_goals (first | (exfalso; omega) | skip)
    rename_i b
    have hL := RshG_spec b x v false (.slice none 0 0) mx R (-k).toNat (by omega) (.tail _ hx) hv
    rw [hkn] at hL
    clear hkn
    refine l_callIA rfl zEvs rfl hL zFsub fun mr => ?_
    all_goals ((try refine zR2 ?_) <;> (repeat' (with_reducible first | refine And.intro ?_ ?_ | intro _)))
    exact e_res rfl zRes _ _ (fun _ h => h) (fun _ h => h.apart) (fsub_cons (.head _) fsub_nil) ⟨b, mr, rfl, rfl, rfl⟩
end Go.Proofs.YtbllgmcpebifhaaGreatDoor.K
end
