/- Large numbers with their sign: Sign, Abs, Neg, Int64, Rsh of numbers that are at least 0. -/
import Derived.Test.YtbllgmcpebifhaaGreatDoorZGd
namespace Go.Proofs.YtbllgmcpebifhaaGreatDoor.K
open Go Go.RowKit
set_option linter.all false
set_option maxRecDepth 4000
set_option maxHeartbeats 1000000
set_option exponentiation.threshold 8000

def sgn (e : Int) : Int := if e = 0 then 0 else if e < 0 then -1 else 1
/-- A value is handed back, and R stays. -/
def PVal (u : Value) (R : List Own) (r : Value) (L' : List Own) (F' : List Fact) : Prop := r = u ∧ L' = R ∧ F' = []

theorem Sign_spec (x : Nat) (v : Int) (mx : Value) (R : List Own) (hx : oInt x v mx ∈ R) :
    Spec Tryz.prog 159 [ptr x] R [fDig mx v.natAbs] (PVal (.int .i64 (sgn v)) R) := by
  refine enter Tryz.func159 Tryz.ntmps159 rfl (by kernel_rfl) zCon rfl fun G => ?_
  refine c_dig (mag := mx) zMem fun d hd => ?_
  refine c_isList (v := mx) zMem fun hs1 => ?_
  all_goals ((try refine zR ?_) <;> (repeat' (with_reducible first | refine And.intro ?_ ?_ | intro _)))
  all_goals refine e_res rfl zRes _ [] (fun _ h => h) (fun _ h => h.apart) fsub_nil ⟨?_, rfl, rfl⟩
  all_goals (simp only [retVal, sgn]; congr 1)
  · have := hd.zero (by omega)
    rw [if_pos (by omega)]
  · have hn : ¬ (d.length : Int) = 0 := by assumption
    have := hd.pos (by omega)
    have hneg : v < 0 := by assumption
    rw [if_neg (by omega), if_pos hneg]
  · have hn : ¬ (d.length : Int) = 0 := by assumption
    have := hd.pos (by omega)
    have hneg : ¬ v < 0 := by assumption
    rw [if_neg (by omega), if_neg hneg]

theorem Abs_spec (z x : Nat) (v : Int) (n0 : Bool) (m0 mx : Value) (R : List Own) (hx : oInt x v mx ∈ oBig z n0 m0 :: R) (hv : v.natAbs < 4294967296 ^ 2000) :
    Spec Tryz.prog 232 [ptr z, ptr x] (oBig z n0 m0 :: R) [fDig mx v.natAbs] (PInt z (v.natAbs : Int) R) := by
  refine enter Tryz.func232 Tryz.ntmps232 rfl (by kernel_rfl) zCon rfl fun G => ?_
  refine c_dig (mag := mx) zMem fun d hd => ?_
  refine c_isList (v := mx) zMem fun hs1 => ?_
  have hl := hd.len hv
  all_goals ((try refine zS ?_) <;> (repeat' (with_reducible first | refine And.intro ?_ ?_ | intro _)))
  refine l_appendInts rfl rfl rfl rfl rfl zMem (fun _ => .head) (by simp [maxLen]; omega) (by omega) fun mr => ?_
  refine l_freezeInts (ik := .u32) (l := d) .head (by simp) ?_
  refine l_call rfl zEvs rfl (put_spec z n0 false m0 mr d hd.1) zTake zFsub ?_
  rintro _ L' F' ⟨mag', rfl, rfl, rfl⟩
  all_goals ((try refine zR ?_) <;> (repeat' (with_reducible first | refine And.intro ?_ ?_ | intro _)))
  rw [hd.2.2]
  exact e_res rfl zRes _ _ (fun _ h => h) (fun _ h => h.apart) (fsub_cons (.head _) fsub_nil) ⟨mag', rfl, rfl, rfl⟩

theorem or_apart64' (i : Nat) {c y : Int} (hc : 0 ≤ c ∧ c < (2 : Int) ^ i) (hi : c < 18446744073709551616) (hy : 0 ≤ y ∧ y < 18446744073709551616) (h : y % (2 : Int) ^ i = 0) : bits .or .u64 c y = c + y := by
  rw [u64_or c y hc.1 hi hy.1 hy.2]
  obtain ⟨a, rfl⟩ := Int.eq_ofNat_of_zero_le hc.1
  obtain ⟨e, rfl⟩ := Int.eq_ofNat_of_zero_le hy.1
  have h1 : a < 2 ^ i := by have := hc.2; exact_mod_cast this
  have h2 : e % 2 ^ i = 0 := by exact_mod_cast h
  have h3 : 2 ^ i * (e / 2 ^ i) = e := Nat.mul_div_cancel' (Nat.dvd_of_mod_eq_zero h2)
  have h4 := Nat.two_pow_add_eq_or_of_lt h1 (e / 2 ^ i)
  rw [h3] at h4
  simp only [Int.toNat_natCast]
  rw [Nat.or_comm, ← h4]; omega

theorem Int64_spec (x : Nat) (v : Int) (mx : Value) (R : List Own) (hx : oInt x v mx ∈ R) (hv : -9223372036854775808 ≤ v ∧ v ≤ 9223372036854775807) :
    Spec Tryz.prog 234 [ptr x] R [fDig mx v.natAbs] (PVal (.int .i64 v) R) := by
  refine enter Tryz.func234 Tryz.ntmps234 rfl (by kernel_rfl) zCon rfl fun G => ?_
  refine c_dig (mag := mx) zMem fun d hd => ?_
  refine c_isList (v := mx) zMem fun hs1 => ?_
  have hl := hd.len (k := 2) (by omega)
  all_goals ((try refine zR ?_) <;> (repeat' (with_reducible first | refine And.intro ?_ ?_ | intro _)))
  refine c_while (ι := { i : Nat // i ≤ d.length }) (κ := Unit) (fun i => [(11, .int .i64 (i.1 : Int)), (10, .int .i64 (d.length : Int)), (9, mx), (3, .int .u64 (vl 4294967296 (d.take i.1) : Int)), (0, ptr x)]) (fun _ => R) (fun _ => [fList 1 (rInt .u32) mx d]) (fun i => d.length - i.1)
    (fun _ => [(3, .int .u64 (v.natAbs : Int)), (0, ptr x)]) (fun _ => R) (fun _ => []) ⟨0, Nat.zero_le _⟩ (fun _ _ s => s.start zSub zRfl zFsub) ?_ ?_
  · rintro ⟨i, hi⟩
    dsimp only
    by_cases hil : i < d.length
    · have hxd := hd.1 _ (List.getElem_mem hil)
      have hi2 : i = 0 ∨ i = 1 := by omega
      have h1 := vl_take_succ 4294967296 d 0 (by omega)
      simp only [List.take_zero, Nat.pow_zero, Nat.one_mul, Nat.zero_add, vl] at h1
      have hx0 := hd.1 _ (List.getElem_mem (by omega : 0 < d.length))
      have hv1 : ((vl 4294967296 (d.take 1) : Nat) : Int) = d[0] := by rw [h1]; omega
      rcases hi2 with rfl | rfl
      · have ho : bits .or .u64 0 (d[0] * 2 ^ 0) = d[0] := by
          rw [u64_or 0 _ (by omega) (by omega) (by omega) (by omega)]
          simp; omega
        have hw : IntKind.u64.wrap (d[0] * 2 ^ 0) = d[0] * 2 ^ 0 := w_u64 (by omega)
        refine c_say (t := 11) (v' := .int .i64 0) rfl rfl ?_
        refine c_say (t := 3) (v' := .int .u64 0) rfl rfl ?_
        all_goals ((try refine zR ?_) <;> (repeat' (with_reducible first | refine And.intro ?_ ?_ | intro _)))
        all_goals (first | (exfalso; omega) | skip)
        refine l_shlS (s := 0) rfl rfl rfl rfl (by omega) hw ?_
        all_goals ((try refine zR ?_) <;> (repeat' (with_reducible first | refine And.intro ?_ ?_ | intro _)))
        exact e_again ⟨1, by omega⟩ (by dsimp only; omega) zSub rfl (fun _ h => h)
      · have ho : bits .or .u64 d[0] (d[1] * 4294967296) = d[0] + d[1] * 4294967296 := or_apart64' 32 (by omega) (by omega) (by omega) (by omega)
        refine c_say (t := 11) (v' := .int .i64 1) rfl rfl ?_
        refine c_say (t := 3) (v' := .int .u64 d[0]) rfl (congrArg _ hv1) ?_
        have h2 := vl_take_succ 4294967296 d 1 hil
        have hs : Value.int .u64 (d[0] + d[1] * 4294967296) = .int .u64 ((vl 4294967296 (d.take 2) : Nat) : Int) := by
          congr 1
          rw [h2]; omega
        all_goals ((try refine zR ?_) <;> (repeat' (with_reducible first | refine And.intro ?_ ?_ | intro _)))
        all_goals (first | (exfalso; omega) | skip)
        exact e_again ⟨2, by omega⟩ (by dsimp only; omega) zSub rfl (fun _ h => h)
    · have : i = d.length := by omega
      subst this
      all_goals ((try refine zR ?_) <;> (repeat' (with_reducible first | refine And.intro ?_ ?_ | intro _)))
      all_goals (first | (exfalso; omega) | skip)
      rw [List.take_length, hd.2.2]
      exact e_out () zSub rfl (fun _ h => by cases h)
  · intro _
    all_goals ((try refine zR ?_) <;> (repeat' (with_reducible first | refine And.intro ?_ ?_ | intro _)))
    all_goals (refine e_res rfl zRes _ [] (fun _ h => h) (fun _ h => h.apart) fsub_nil ⟨?_, rfl, rfl⟩; simp only [retVal]; congr 1)
    · have : v < 0 := by assumption
      rw [IntKind.wrap_i64]; omega
    · have : ¬ v < 0 := by assumption
      omega

theorem Rsh_spec (z x : Nat) (v : Int) (n0 : Bool) (m0 mx : Value) (R : List Own) (q s : Nat) (hs : s < 32) (hq : q ≤ 1000) (hx : oInt x v mx ∈ oBig z n0 m0 :: R) (hv : v.natAbs < 4294967296 ^ 1000) (h0 : 0 ≤ v) :
    Spec Tryz.prog 182 [ptr z, ptr x, .int .u64 ((32 * q + s : Nat) : Int)] (oBig z n0 m0 :: R) [fDig mx v.natAbs] (PInt z (v / 2 ^ (32 * q + s)) R) := by
  refine enter Tryz.func182 Tryz.ntmps182 rfl (by kernel_rfl) zCon rfl fun G => ?_
  refine c_dig (mag := mx) zMem fun d hd => ?_
  refine c_isList (v := mx) zMem fun hsl => ?_
  have hdl := hd.len hv
  have h1 : ((32 * q + s : Nat) : Int).tdiv 32 = (q : Int) := by rw [Int.tdiv_eq_ediv_of_nonneg (by omega)]; omega
  have h2 : ((32 * q + s : Nat) : Int).tmod 32 = (s : Int) := by rw [Int.tmod_eq_emod_of_nonneg (by omega)]; omega
  have hneg : decide (v < 0) = false := decide_eq_false (by omega)
  have hx' : oBig x false mx ∈ oBig z n0 m0 :: R := by rw [← hneg]; exact hx
  clear hx
  all_goals ((try refine zR ?_) <;> (repeat' (with_reducible first | refine And.intro ?_ ?_ | intro _)))
  rename_i r0
  refine c_while (ι := { p : Nat × Value × List Int // q ≤ p.1 ∧ p.2.2 ++ rshl s (d.drop p.1) = rshl s (d.drop q) }) (κ := Value)
    (fun p => [(10, .int .i64 (p.1.1 : Int)), (8, p.1.2.1), (7, .bool false), (2, .int .u64 ((32 * q + s : Nat) : Int)), (1, ptr x), (0, ptr z)]) (fun p => .row p.1.2.1 220 1 p.1.2.2.length (p.1.2.2.map (Value.int .u32)) :: oBig z n0 m0 :: R) (fun _ => [fList 1 (rInt .u32) mx d]) (fun p => d.length - p.1.1)
    (fun r => [(8, r), (7, .bool false), (1, ptr x), (0, ptr z)]) (fun r => .row r 220 1 (rshl s (d.drop q)).length ((rshl s (d.drop q)).map (Value.int .u32)) :: oBig z n0 m0 :: R) (fun _ => []) ⟨(q, r0, []), Nat.le_refl _, rfl⟩ (fun _ _ s => s.start zSub zRfl zFsub) ?_ ?_
  · rintro ⟨⟨i, r, o⟩, hqi, ho⟩
    dsimp only at hqi ho ⊢
    have hol : o.length ≤ 1000 := by
      have := congrArg List.length ho
      rw [List.length_append, rshl_len, rshl_len] at this
      simp at this
      omega
    by_cases hil : i < d.length
    · have hxd := hd.1 _ (List.getElem_mem hil)
      have hyd := InR.headD (hd.1.drop (i + 1)) (by omega)
      all_goals ((try refine zS ?_) <;> (repeat' (with_reducible first | refine And.intro ?_ ?_ | intro _)))
      refine c_dec rfl (fun _ => ?_) (fun h => absurd h (by omega))
      all_goals ((try refine zS ?_) <;> (repeat' (with_reducible first | refine And.intro ?_ ?_ | intro _)))
      refine c_mid (κ := Unit) (fun _ => [(11, .int .u64 (d[i] + (d.drop (i + 1)).headD 0 * 4294967296)), (10, .int .i64 (i : Int)), (8, r), (7, .bool false), (2, .int .u64 ((32 * q + s : Nat) : Int)), (1, ptr x), (0, ptr z)]) (fun _ => .row r 220 1 o.length (o.map (Value.int .u32)) :: oBig z n0 m0 :: R) (fun _ => [fList 1 (rInt .u32) mx d]) ?_ ?_
      · by_cases hi1 : i + 1 < d.length
        · have hy1 := hd.1 _ (List.getElem_mem hi1)
          have hh : (d.drop (i + 1)).headD 0 = d[i + 1] := by rw [List.drop_eq_getElem_cons hi1]; rfl
          have hget : d[i + 1]? = some d[i + 1] := List.getElem?_eq_getElem hi1
          rw [hh]
          revert hy1 hget
          generalize d[i + 1] = y
          intro hy1 hget
          have hor : bits .or .u64 d[i] (y * 4294967296) = d[i] + y * 4294967296 := or_apart64' 32 (by omega) (by omega) (by omega) (by omega)
          all_goals ((try refine zR ?_) <;> (repeat' (with_reducible first | refine And.intro ?_ ?_ | intro _)))
          all_goals (first | (exfalso; omega) | skip)
          exact e_out () zSub rfl (fun _ h => h)
        · have hh : (d.drop (i + 1)).headD 0 = 0 := by rw [List.drop_eq_nil_of_le (by omega)]; rfl
          rw [hh]
          all_goals ((try refine zR ?_) <;> (repeat' (with_reducible first | refine And.intro ?_ ?_ | intro _)))
          all_goals (first | (exfalso; omega) | skip)
          exact e_out () zSub rfl (fun _ h => h)
      · intro _
        all_goals ((try refine zR ?_) <;> (repeat' (with_reducible first | refine And.intro ?_ ?_ | intro _)))
        rename_i r'
        refine e_again ⟨(i + 1, r', o ++ [(d[i] + (d.drop (i + 1)).headD 0 * 4294967296) / 2 ^ s % 4294967296]), by dsimp only; omega, ?_⟩ (by dsimp only; omega) zSub (by simp) zFsub
        dsimp only
        rw [← ho, List.append_assoc, List.drop_eq_getElem_cons hil, rshl]
        rfl
    · all_goals ((try refine zR ?_) <;> (repeat' (with_reducible first | refine And.intro ?_ ?_ | intro _)))
      all_goals (first | (exfalso; omega) | skip)
      have hnil : d.drop i = [] := List.drop_eq_nil_of_le (by omega)
      rw [hnil, rshl, List.append_nil] at ho
      subst ho
      exact e_out r zSub rfl (fun _ h => by cases h)
  · intro r
    have hr := rshl_range s (d.drop q)
    have hvr := vl_rshl s (by omega) (d.drop q) (hd.1.drop q)
    rw [vl_drop_div _ (by omega) _ hd.1, hd.2.2, show (4294967296 : Nat) = 2 ^ 32 by decide, ← Nat.pow_mul, Nat.div_div_eq_div_mul, ← Nat.pow_add] at hvr
    revert hr hvr
    generalize rshl s (d.drop q) = o
    intro hr hvr
    all_goals ((try refine zR ?_) <;> (repeat' (with_reducible first | refine And.intro ?_ ?_ | intro _)))
    refine l_freezeInts (ik := .u32) (l := o) .head rfl ?_
    refine l_call rfl zEvs rfl (put_spec z n0 false m0 r o hr) zTake zFsub ?_
    rintro _ L' F' ⟨mag', rfl, rfl, rfl⟩
    all_goals ((try refine zR ?_) <;> (repeat' (with_reducible first | refine And.intro ?_ ?_ | intro _)))
    have e : sv false (vl 4294967296 o) = v / 2 ^ (32 * q + s) := by
      rw [show vl 4294967296 o = v.natAbs / 2 ^ (32 * q + s) from hvr]
      unfold sv
      obtain ⟨n, rfl⟩ := Int.eq_ofNat_of_zero_le h0
      simp
    rw [e]
    exact e_res rfl zRes _ _ (fun _ h => h) (fun _ h => h.apart) (fsub_cons (.head _) fsub_nil) ⟨mag', rfl, rfl, rfl⟩
end Go.Proofs.YtbllgmcpebifhaaGreatDoor.K
