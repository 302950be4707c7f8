/- Large numbers: order, one bit; numbers with a power: one power, differences, order, rounding down. -/
import Derived.Test.YtbllgmcpebifhaaGreatDoorZNc
import Derived.Test.YtbllgmcpebifhaaGreatDoorZNa
import Derived.Test.YtbllgmcpebifhaaGreatDoorZJk

section
namespace Go.Proofs.YtbllgmcpebifhaaGreatDoor.K
open Go Go.RowKit
set_option linter.all false
set_option maxRecDepth 4000
set_option maxHeartbeats 1000000
set_option exponentiation.threshold 8000

/-- Some registers are forgotten. -/
theorem c_regs {G : Ctx} {n : Nat} {P : Program} {Q : Post} {m m' : Regs} {L : List Own} {F : List Fact} {c : Code} (hm : ∀ t v, look m' t = some v → look m t = some v) (h : RunC G n P c Q m' L F) : RunC G n P c Q m L F := fun a w s => h a w (s.regs hm)
/-- A number with a power. -/
abbrev vNum (x : Nat) (p : Int) : Value := .agg #[ptr x, .int .i64 p]
theorem Cmp_spec (z y : Nat) (vz vy : Int) (mz my : Value) (R : List Own) (hz : oInt z vz mz ∈ R) (hy : oInt y vy my ∈ R) :
    Spec Tryz.prog 172 [ptr z, ptr y] R [fDig mz vz.natAbs, fDig my vy.natAbs] (PVal (.int .i64 (if vz < vy then -1 else if vz = vy then 0 else 1)) R) := by
  refine enter Tryz.func172 Tryz.ntmps172 rfl (by kernel_rfl) zCon rfl fun G => ?_
  refine c_dig (mag := mz) (x := vz.natAbs) (.head _) fun a ha => ?_
  refine c_dig (mag := my) (x := vy.natAbs) (.tail _ (.tail _ (.head _))) fun b hb => ?_
  refine c_isList (v := mz) (l := a) zMem fun hs1 => ?_
  refine c_isList (v := my) (l := b) zMem fun hs2 => ?_
  have hzy := cmpDigits_spec mz my a b _ _ ha hb
  have hyz := cmpDigits_spec my mz b a _ _ hb ha
  by_cases h1 : vz < 0
  · by_cases h2 : vy < 0
    · have e1 : decide (vz < 0) = true := decide_eq_true h1
      have e2 : decide (vy < 0) = true := decide_eq_true h2
      rw [oInt, e1] at hz
      rw [oInt, e2] at hy
      all_goals ((try refine zR2 ?_) <;> (repeat' (with_reducible first | refine And.intro ?_ ?_ | intro _)))
      refine c_draw ([9], []) [oBig z true mz, oBig y true my] [0, 1, 2, 3, 4, 5, 6, 7, 8, 9] (by kernel_rfl) (by kernel_rfl) ?_
      all_goals (((try refine zD2 ?_) <;> (repeat' (with_reducible first | refine And.intro ?_ ?_ | intro _))) <;> (repeat' ((first | ((with_reducible apply l_callP); exact rfl; exact zEvs; exact rfl; (with_reducible apply hyz); (case hF => exact zFsub); (try any_goals (refine propId ?_; omega)))) <;> ((try refine zD2 ?_) <;> (repeat' (with_reducible first | refine And.intro ?_ ?_ | intro _))))))
      refine e_res rfl zRes _ [] (fun _ h => h) (fun _ h => h.apart) fsub_nil ⟨?_, rfl, rfl⟩
      simp only [retVal]
      congr 1
      (repeat' split) <;> omega
    · have e1 : decide (vz < 0) = true := decide_eq_true h1
      have e2 : decide (vy < 0) = false := decide_eq_false h2
      rw [oInt, e1] at hz
      rw [oInt, e2] at hy
      all_goals ((try refine zR2 ?_) <;> (repeat' (with_reducible first | refine And.intro ?_ ?_ | intro _)))
      refine e_res rfl zRes _ [] (fun _ h => h) (fun _ h => h.apart) fsub_nil ⟨?_, rfl, rfl⟩
      simp only [retVal]
      congr 1
      rw [if_pos (by omega)]
  · by_cases h2 : vy < 0
    · have e1 : decide (vz < 0) = false := decide_eq_false h1
      have e2 : decide (vy < 0) = true := decide_eq_true h2
      rw [oInt, e1] at hz
      rw [oInt, e2] at hy
      all_goals ((try refine zR2 ?_) <;> (repeat' (with_reducible first | refine And.intro ?_ ?_ | intro _)))
      refine e_res rfl zRes _ [] (fun _ h => h) (fun _ h => h.apart) fsub_nil ⟨?_, rfl, rfl⟩
      simp only [retVal]
      congr 1
      rw [if_neg (by omega), if_neg (by omega)]
    · have e1 : decide (vz < 0) = false := decide_eq_false h1
      have e2 : decide (vy < 0) = false := decide_eq_false h2
      rw [oInt, e1] at hz
      rw [oInt, e2] at hy
      all_goals ((try refine zR2 ?_) <;> (repeat' (with_reducible first | refine And.intro ?_ ?_ | intro _)))
      refine c_draw ([9], []) [oBig z false mz, oBig y false my] [0, 1, 2, 3, 4, 5, 6, 7, 8, 9] (by kernel_rfl) (by kernel_rfl) ?_
      all_goals (((try refine zD2 ?_) <;> (repeat' (with_reducible first | refine And.intro ?_ ?_ | intro _))) <;> (repeat' ((first | ((with_reducible apply l_callP); exact rfl; exact zEvs; exact rfl; (with_reducible apply hzy); (case hF => exact zFsub); (try any_goals (refine propId ?_; omega)))) <;> ((try refine zD2 ?_) <;> (repeat' (with_reducible first | refine And.intro ?_ ?_ | intro _))))))
      refine e_res rfl zRes _ [] (fun _ h => h) (fun _ h => h.apart) fsub_nil ⟨?_, rfl, rfl⟩
      simp only [retVal]
      congr 1
      (repeat' split) <;> omega

/-- Both whole numbers for one power are handed back; R stays. -/
def PAl (v1 v2 m : Int) (R : List Own) (r : Value) (L' : List Own) (F' : List Fact) : Prop := ∃ a b ma mb, r = .tuple #[ptr a, ptr b, .int .i64 m] ∧ L' = oInt b v2 mb :: oInt a v1 ma :: R ∧ F' = [fDig mb v2.natAbs, fDig ma v1.natAbs]
theorem aligned_spec (x y : Nat) (vx vy p q : Int) (mx my : Value) (R : List Own) (hx : oInt x vx mx ∈ R) (hy : oInt y vy my ∈ R) (hvx : vx.natAbs < 4294967296 ^ 990) (hvy : vy.natAbs < 4294967296 ^ 990) (hp : -15000 ≤ p ∧ p ≤ 15000) (hq : -15000 ≤ q ∧ q ≤ 15000) :
    Spec Tryz.prog 167 [vNum x p, vNum y q] R [fDig mx vx.natAbs, fDig my vy.natAbs, fTz] (PAl (vx * 2 ^ (p - min p q).toNat) (vy * 2 ^ (q - min p q).toNat) (min p q) R) := by
  refine enter Tryz.func167 Tryz.ntmps167 rfl (by kernel_rfl) zCon rfl fun G => ?_
  all_goals ((try refine zR2 ?_) <;> (repeat' (with_reducible first | refine And.intro ?_ ?_ | intro _)))
  rename_i b2 b3
  obtain ⟨m, hm⟩ : ∃ m, m = min p q := ⟨_, rfl⟩
  have e1 : shl vx (p - min p q) = vx * 2 ^ (p - min p q).toNat := by unfold shl; rw [if_pos (by omega)]
  have e2 : shl vy (q - min p q) = vy * 2 ^ (q - min p q).toNat := by unfold shl; rw [if_pos (by omega)]
  refine c_regs (m' := [(7, .int .i64 (min p q)), (2, ptr b2), (3, ptr b3)]) zSub ?_
  refine c_draw ([17], []) [.box b2 [ptr x, .int .i64 p] 111, .box b3 [ptr y, .int .i64 q] 111] [0, 1, 2, 3, 4, 5, 7, 8, 9, 10, 11, 12, 14, 6, 13, 15, 16, 17] (by kernel_rfl) (by kernel_rfl) ?_
  all_goals ((try refine zD2 ?_) <;> (repeat' (with_reducible first | refine And.intro ?_ ?_ | intro _)))
  refine l_callA rfl zEvs rfl (shifted_spec x vx (p - min p q) mx _ (by omega) (.tail _ (.tail _ hx)) hvx) zFsub ?_
  rintro _ L' F' ⟨a, ma, rfl, rfl, rfl⟩
  rw [e1]
  all_goals ((try refine zD2 ?_) <;> (repeat' (with_reducible first | refine And.intro ?_ ?_ | intro _)))
  refine l_callA rfl zEvs rfl (shifted_spec y vy (q - min p q) my _ (by omega) (.tail _ (.tail _ (.tail _ hy))) hvy) zFsub ?_
  rintro _ L' F' ⟨b, mb, rfl, rfl, rfl⟩
  rw [e2]
  all_goals ((try refine zD2 ?_) <;> (repeat' (with_reducible first | refine And.intro ?_ ?_ | intro _)))
  exact e_resT rfl zRes (Lo := oInt b _ mb :: oInt a _ ma :: R) zTake (fsub_cons zMem (fsub_cons zMem fsub_nil)) ⟨a, b, ma, mb, rfl, rfl, rfl⟩

/-- A number with a power is handed back; R stays. -/
def PNumR (v p : Int) (R : List Own) (r : Value) (L' : List Own) (F' : List Fact) : Prop := ∃ a ma, r = vNum a p ∧ L' = oInt a v ma :: R ∧ F' = [fDig ma v.natAbs]
theorem minus_spec (x y : Nat) (vx vy p q : Int) (mx my : Value) (R : List Own) (hx : oInt x vx mx ∈ R) (hy : oInt y vy my ∈ R) (hvx : vx.natAbs < 4294967296 ^ 990) (hvy : vy.natAbs < 4294967296 ^ 990) (hp : -15000 ≤ p ∧ p ≤ 15000) (hq : -15000 ≤ q ∧ q ≤ 15000)
    (h1 : (vx * 2 ^ (p - min p q).toNat).natAbs < 4294967296 ^ 900) (h2 : (vy * 2 ^ (q - min p q).toNat).natAbs < 4294967296 ^ 900) :
    Spec Tryz.prog 104 [vNum x p, vNum y q] R [fDig mx vx.natAbs, fDig my vy.natAbs, fTz] (PNumR (vx * 2 ^ (p - min p q).toNat - vy * 2 ^ (q - min p q).toNat) (min p q) R) := by
  refine enter Tryz.func104 Tryz.ntmps104 rfl (by kernel_rfl) zCon rfl fun G => ?_
  all_goals ((try refine zR2 ?_) <;> (repeat' (with_reducible first | refine And.intro ?_ ?_ | intro _)))
  refine l_callA rfl zEvs rfl (aligned_spec x y vx vy p q mx my _ (.tail _ (.tail _ (.tail _ hx))) (.tail _ (.tail _ (.tail _ hy))) hvx hvy hp hq) zFsub ?_
  rintro _ L' F' ⟨a, b, ma, mb, rfl, rfl, rfl⟩
  generalize vx * 2 ^ (p - min p q).toNat = v1 at h1 ⊢
  generalize vy * 2 ^ (q - min p q).toNat = v2 at h2 ⊢
  all_goals ((try refine zR2 ?_) <;> (repeat' (with_reducible first | refine And.intro ?_ ?_ | intro _)))
  refine l_call rfl zEvs rfl (Sub_spec a a b v1 v2 (decide (v1 < 0)) ma ma mb [oInt b v2 mb] (.head _) (.tail _ (.head _)) h1 h2) zTake zFsub ?_
  rintro _ L' F' ⟨mr, rfl, rfl, rfl⟩
  all_goals ((try refine zR2 ?_) <;> (repeat' (with_reducible first | refine And.intro ?_ ?_ | intro _)))
  exact e_resT rfl zRes (Lo := oInt a _ mr :: R) zTake (fsub_cons zMem fsub_nil) ⟨a, mr, rfl, rfl, rfl⟩
theorem compare_spec (x y : Nat) (vx vy p q : Int) (mx my : Value) (R : List Own) (hx : oInt x vx mx ∈ R) (hy : oInt y vy my ∈ R) (hvx : vx.natAbs < 4294967296 ^ 990) (hvy : vy.natAbs < 4294967296 ^ 990) (hp : -15000 ≤ p ∧ p ≤ 15000) (hq : -15000 ≤ q ∧ q ≤ 15000) :
    Spec Tryz.prog 98 [vNum x p, vNum y q] R [fDig mx vx.natAbs, fDig my vy.natAbs, fTz] (PVal (.int .i64 (if vx * 2 ^ (p - min p q).toNat < vy * 2 ^ (q - min p q).toNat then -1 else if vx * 2 ^ (p - min p q).toNat = vy * 2 ^ (q - min p q).toNat then 0 else 1)) R) := by
  refine enter Tryz.func98 Tryz.ntmps98 rfl (by kernel_rfl) zCon rfl fun G => ?_
  all_goals ((try refine zR2 ?_) <;> (repeat' (with_reducible first | refine And.intro ?_ ?_ | intro _)))
  refine l_callA rfl zEvs rfl (aligned_spec x y vx vy p q mx my _ (.tail _ (.tail _ hx)) (.tail _ (.tail _ hy)) hvx hvy hp hq) zFsub ?_
  rintro _ L' F' ⟨a, b, ma, mb, rfl, rfl, rfl⟩
  generalize vx * 2 ^ (p - min p q).toNat = v1
  generalize vy * 2 ^ (q - min p q).toNat = v2
  all_goals ((try refine zR2 ?_) <;> (repeat' (with_reducible first | refine And.intro ?_ ?_ | intro _)))
  refine l_callVA rfl zEvs rfl (Cmp_spec a b v1 v2 ma mb _ zMem zMem) zFsub ?_
  generalize (if v1 < v2 then (-1 : Int) else if v1 = v2 then 0 else 1) = s
  all_goals ((try refine zR2 ?_) <;> (repeat' (with_reducible first | refine And.intro ?_ ?_ | intro _)))
  exact e_resT rfl zRes (Lo := R) zTake fsub_nil ⟨rfl, rfl, rfl⟩
theorem floor_spec (x : Nat) (v p k : Int) (mx : Value) (R : List Own) (hx : oInt x v mx ∈ R) (hv : v.natAbs < 4294967296 ^ 990) (hp : -15000 ≤ p ∧ p ≤ 15000) (hk : -15000 ≤ k ∧ k ≤ 15000) :
    Spec Tryz.prog 109 [vNum x p, .int .i64 k] R [fDig mx v.natAbs, fTz] (PNew (shl v (p + k)) R) := by
  refine enter Tryz.func109 Tryz.ntmps109 rfl (by kernel_rfl) zCon rfl fun G => ?_
  all_goals ((try refine zR2 ?_) <;> (repeat' (with_reducible first | refine And.intro ?_ ?_ | intro _)))
  refine l_callA rfl zEvs rfl (shifted_spec x v (p + k) mx _ (by omega) (.tail _ hx) hv) zFsub ?_
  rintro _ L' F' ⟨a, ma, rfl, rfl, rfl⟩
  all_goals ((try refine zR2 ?_) <;> (repeat' (with_reducible first | refine And.intro ?_ ?_ | intro _)))
  exact e_resT rfl zRes (Lo := oInt a _ ma :: R) zTake (fsub_cons zMem fsub_nil) ⟨a, ma, rfl, rfl, rfl⟩
/-- Some whole number is handed back; R stays. -/
def PSome (R : List Own) (r : Value) (L' : List Own) (F' : List Fact) : Prop := ∃ n : Int, r = .int .u64 n ∧ L' = R ∧ F' = []
theorem Bit0_spec (x : Nat) (v : Int) (mx : Value) (R : List Own) (hx : oInt x v mx ∈ R) :
    Spec Tryz.prog 233 [ptr x, .int .i64 0] R [fDig mx v.natAbs] (PSome R) := by
  refine enter Tryz.func233 Tryz.ntmps233 rfl (by kernel_rfl) zCon rfl fun G => ?_
  refine c_dig (mag := mx) zMem fun d hd => ?_
  refine c_isList (v := mx) zMem fun hsl => ?_
  all_goals ((try refine zR2 ?_) <;> (repeat' (with_reducible first | refine And.intro ?_ ?_ | intro _)))
  · exact e_res rfl zRes _ [] (fun _ h => h) (fun _ h => h.apart) fsub_nil ⟨_, rfl, rfl, rfl⟩
  · refine l_shr rfl rfl rfl rfl (by decide) rfl ?_
    refine l_andA rfl rfl rfl rfl rfl ?_
    generalize bits .and .u32 _ 1 = y
    all_goals ((try refine zR2 ?_) <;> (repeat' (with_reducible first | refine And.intro ?_ ?_ | intro _)))
    exact e_res rfl zRes _ [] (fun _ h => h) (fun _ h => h.apart) fsub_nil ⟨_, rfl, rfl, rfl⟩
end Go.Proofs.YtbllgmcpebifhaaGreatDoor.K
end

section
/- The program's exact number of a float. -/
namespace Go.Proofs.YtbllgmcpebifhaaGreatDoor.K
open Go Go.RowKit
set_option linter.all false
set_option maxRecDepth 4000
set_option maxHeartbeats 1000000
set_option exponentiation.threshold 40000

theorem ends_nilRow {G : Ctx} {n : Nat} {Q : Post} {m : Regs} {L : List Own} {F : List Fact} {e : Exit} {E : TypeId} (s : Nat) (h : Ends G n Q e m (.row (.slice none 0 0) E s 0 [] :: L) F) : Ends G n Q e m L F :=
  fun a w st => h a w (st.add (Keep.refl _ _) (World.ownsRow_nil w 0 E s) fun x hx => by simp [Own.key, Value.ownBlock] at hx)
/-- What dyadic hands back; R stays. -/
def PDyc (v p : Int) (R : List Own) (r : Value) (L' : List Own) (F' : List Fact) : Prop :=
  if (nv v).natAbs < 2 ^ 4800 ∧ -5000 ≤ ne v p ∧ ne v p ≤ 5000 then ∃ u, r = .tuple #[vDyadic (sgn (nv v)) u (ne v p), .int .i64 0] ∧ L' = .row u 2 1 (limbs (nv v).natAbs).length ((limbs (nv v).natAbs).map (Value.int .i64)) :: R ∧ F' = []
  else r = .tuple #[vDyadic 0 (.slice none 0 0) 0, .int .i64 3] ∧ L' = R ∧ F' = []
theorem nv_div (v : Int) : v / 2 ^ twos v.natAbs = nv v := by
  have h := nv_mul v
  have e : (2 : Int) ^ twos v.natAbs = ((2 ^ twos v.natAbs : Nat) : Int) := by simp
  rw [e]
  conv => lhs; lhs; rw [← h]
  exact Int.mul_ediv_cancel _ (Int.ne_of_gt (pw_pos _))
theorem dyadic_spec (x : Nat) (v p : Int) (mx : Value) (R : List Own) (hx : oInt x v mx ∈ R) (hv : v.natAbs < 4294967296 ^ 800) (hp : -100000 ≤ p ∧ p ≤ 100000) :
    Spec Tryz.prog 110 [vNum x p] R [fDig mx v.natAbs, fTz] (PDyc v p R) := by
  refine enter Tryz.func110 Tryz.ntmps110 rfl (by kernel_rfl) zCon rfl fun G => ?_
  have hv1000 : v.natAbs < 4294967296 ^ 1000 := Nat.lt_of_lt_of_le hv (Nat.pow_le_pow_right (by omega) (by omega))
  have hv990 : v.natAbs < 4294967296 ^ 990 := Nat.lt_of_lt_of_le hv (Nat.pow_le_pow_right (by omega) (by omega))
  have hv900 : v.natAbs < 4294967296 ^ 900 := Nat.lt_of_lt_of_le hv (Nat.pow_le_pow_right (by omega) (by omega))
  all_goals ((try refine zR2 ?_) <;> (repeat' (with_reducible first | refine And.intro ?_ ?_ | intro _)))
  refine l_callVA rfl zEvs rfl (Sign_spec x v mx _ (.tail _ (.tail _ hx))) zFsub ?_
  by_cases h0 : v = 0
  · subst h0
    rw [show sgn 0 = 0 from rfl]
    all_goals ((try refine zR2 ?_) <;> (repeat' (with_reducible first | refine And.intro ?_ ?_ | intro _)))
    all_goals (first | (exfalso; omega) | skip)
    refine ends_nilRow (E := 2) 1 ?_
    refine e_resT rfl zRes (Lo := .row (.slice none 0 0) 2 1 0 [] :: R) zTake fsub_nil ?_
    unfold PDyc
    have e1 : nv 0 = 0 := by simp [nv]
    have e2 : ne 0 p = 0 := by simp [ne]
    rw [e1, e2, if_pos ⟨by decide, by omega, by omega⟩]
    exact ⟨.slice none 0 0, rfl, by simp [limbs_zero], rfl⟩
  · have hs0 : ¬ sgn v = 0 := fun h => h0 (sgn_zero.1 h)
    have htl : twos v.natAbs ≤ 25600 := twos_blen (by rw [show (4294967296 : Nat) = 2 ^ 32 by decide, ← Nat.pow_mul] at hv; exact hv)
    all_goals ((try refine zR2 ?_) <;> (repeat' (with_reducible first | refine And.intro ?_ ?_ | intro _)))
    all_goals first | (exfalso; contradiction) | skip
    refine l_callVA rfl zEvs rfl (TrailingZeroBits_spec x v mx _ (.tail _ (.tail _ hx)) hv1000) zFsub ?_
    all_goals ((try refine zR2 ?_) <;> (repeat' (with_reducible first | refine And.intro ?_ ?_ | intro _)))
    rename_i b17
    refine l_callIA rfl zEvs rfl (RshG_spec b17 x v false _ mx _ (twos v.natAbs) (by omega) (.tail _ (.tail _ (.tail _ hx))) hv990) zFsub fun mr => ?_
    rw [nv_div]
    all_goals ((try refine zR2 ?_) <;> (repeat' (with_reducible first | refine And.intro ?_ ?_ | intro _)))
    have hnv : (nv v).natAbs < 4294967296 ^ 900 := Nat.lt_of_le_of_lt (nv_le v) hv900
    refine l_callA rfl zEvs rfl (whole_spec b17 (nv v) mr _ (.head _) hnv) zFsub ?_
    intro rv L' F' hW
    unfold PWhole at hW
    have hne : ne v p = p + twos v.natAbs := by unfold ne; rw [if_neg h0]
    by_cases hbig : (nv v).natAbs < 2 ^ 4800
    · rw [if_pos hbig] at hW
      obtain ⟨u, rfl, rfl, rfl⟩ := hW
      refine l_isRow (v := u) (.own (.head _)) fun hsu _ => ?_
      all_goals (((try refine zR2 ?_) <;> (repeat' (with_reducible first | refine And.intro ?_ ?_ | intro _))) <;> (repeat' ((first | ((with_reducible apply l_callP); exact rfl; exact zEvs; exact rfl; (with_reducible apply between_spec); (case hF => exact zFsub); (try any_goals (refine propId ?_; omega)))) <;> ((try refine zR2 ?_) <;> (repeat' (with_reducible first | refine And.intro ?_ ?_ | intro _))))))
      · have hnb : ¬ (-5000 ≤ p + (twos v.natAbs : Int) ∧ p + (twos v.natAbs : Int) ≤ 5000) := by assumption
        refine e_resT rfl zRes (Lo := R) zTake fsub_nil ?_
        unfold PDyc
        rw [if_neg (by rw [hne]; exact fun h => hnb h.2)]
        exact ⟨rfl, rfl, rfl⟩
      · have hnb : ¬ ¬ (-5000 ≤ p + (twos v.natAbs : Int) ∧ p + (twos v.natAbs : Int) ≤ 5000) := by assumption
        have hnb := Decidable.of_not_not hnb
        refine e_resT rfl zRes (Lo := .row u 2 1 (limbs (nv v).natAbs).length ((limbs (nv v).natAbs).map (Value.int .i64)) :: R) zTake fsub_nil ?_
        unfold PDyc
        rw [if_pos (by rw [hne]; exact ⟨hbig, hnb⟩)]
        exact ⟨u, by rw [hne]; rfl, rfl, rfl⟩
    · rw [if_neg hbig] at hW
      obtain ⟨rfl, rfl, rfl⟩ := hW
      all_goals (((try refine zR2 ?_) <;> (repeat' (with_reducible first | refine And.intro ?_ ?_ | intro _))) <;> (repeat' ((first | ((with_reducible apply l_callP); exact rfl; exact zEvs; exact rfl; (with_reducible apply between_spec); (case hF => exact zFsub); (try any_goals (refine propId ?_; omega)))) <;> ((try refine zR2 ?_) <;> (repeat' (with_reducible first | refine And.intro ?_ ?_ | intro _))))))
      refine e_resT rfl zRes (Lo := R) zTake fsub_nil ?_
      unfold PDyc
      rw [if_neg (fun h => hbig h.1)]
      exact ⟨rfl, rfl, rfl⟩

/-- The value of a float is handed back. -/
def PVo (a : Int) (r : Value) (L' : List Own) (F' : List Fact) : Prop := ∃ v p, VEq a v p ∧ v.natAbs < 2 ^ 53 ∧ -3000 ≤ p ∧ p ≤ 3000 ∧ PNumR v p [] r L' F'
theorem valueOf_spec (x : Nat) (a : Int) (h64 : x < 18446744073709551616) (hx : fv x = some a) : Spec Tryz.prog 158 [.float .f64 x] [] [] (PVo a) := by
  refine enter Tryz.func158 Tryz.ntmps158 rfl (by kernel_rfl) zCon rfl fun G => ?_
  all_goals ((try refine zR2 ?_) <;> (repeat' (with_reducible first | refine And.intro ?_ ?_ | intro _)))
  refine l_call rfl zEvs rfl (Frexp_spec x a h64 hx) zTake zFsub ?_
  rintro _ L' F' ⟨f, k, rfl, hf64, hfr, rfl, rfl⟩
  obtain ⟨b, M, hfb, hM, hMb, hV, hk⟩ : ∃ b M : Int, fv f = some b ∧ b * (2 ^ 53 : Nat) = M * (2 ^ 1074 : Nat) ∧ M.natAbs < 9007199254740992 ∧ VEq a M (k - 53) ∧ -2000 ≤ k ∧ k ≤ 2000 := by
    rcases hfr with ⟨rfl, hf, rfl⟩ | ⟨s, fr, _, hfr, rfl, hV, hk1, hk2⟩
    · exact ⟨0, 0, hf, by simp, by decide, VEq.of_zero _, by omega, by omega⟩
    · have h1 := fv_mkW s 1022 fr (by omega) hfr
      refine ⟨_, Ieee.signed s (4503599627370496 + fr) 0, h1, ?_, ?_, hV, hk1, hk2⟩
      · rw [← signed_scale, ← signed_scale]
      · rw [signed_abs, Nat.pow_zero]; omega
  have e53 : (2 : Nat) ^ 53 = 9007199254740992 := by decide
  have hR : FRep (M * (2 ^ 1074 : Nat)).natAbs := by
    rw [natAbs_pw]
    exact ⟨M.natAbs, 1074, rfl, by rw [e53]; exact hMb, by omega⟩
  have hL := Ldexp_spec f b (M * (2 ^ 1074 : Nat)) 53 53 0 hf64 hfb (by rw [hM]; simp) (by decide) hR (by omega)
  clear hfr
  all_goals ((try refine zR2 ?_) <;> (repeat' (with_reducible first | refine And.intro ?_ ?_ | intro _)))
  refine l_call rfl zEvs rfl hL zTake zFsub ?_
  rintro _ L' F' ⟨g, rfl, hg64, hg, rfl, rfl⟩
  obtain ⟨z, hz1, hz2, _, hz4⟩ := cut_int hg (by rw [natAbs_pw]; exact Nat.mul_lt_mul_of_pos_right (by rw [e53]; exact hMb) (Nat.pow_pos (by omega)))
  have hzM : z = M := pw_cancel (hz4.1 (by rw [natAbs_pw]; exact Nat.mul_mod_left _ _))
  subst hzM
  clear hz4 hL hR hM hg
  all_goals ((try refine zR2 ?_) <;> (repeat' (with_reducible first | refine And.intro ?_ ?_ | intro _)))
  refine l_call rfl zEvs rfl (newBig_spec z (by omega)) zTake zFsub ?_
  rintro _ L' F' ⟨b1, mg, rfl, rfl, rfl⟩
  all_goals ((try refine zR2 ?_) <;> (repeat' (with_reducible first | refine And.intro ?_ ?_ | intro _)))
  exact e_resT rfl zRes (Lo := [oInt b1 z mg]) zTake (fsub_cons zMem fsub_nil) ⟨z, k - 53, hV, by rw [e53]; exact hMb, by omega, by omega, b1, mg, rfl, rfl, rfl⟩

/-- The exact number of a float is handed back. -/
def PDof (a : Int) (r : Value) (L' : List Own) (F' : List Fact) : Prop := ∃ v e u, VEq a v e ∧ Nrm v e ∧ v.natAbs < 2 ^ 53 ∧ -1074 ≤ e ∧ e ≤ 1024 ∧ r = .tuple #[vDyadic (sgn v) u e, .int .i64 0] ∧ L' = [.row u 2 1 (limbs v.natAbs).length ((limbs v.natAbs).map (Value.int .i64))] ∧ F' = []
theorem DyadicOf_spec (x : Nat) (a : Int) (h64 : x < 18446744073709551616) (hx : fv x = some a) : Spec Tryz.prog 256 [.float .f64 x] [] [fTz] (PDof a) := by
  refine enter Tryz.func256 Tryz.ntmps256 rfl (by kernel_rfl) zCon rfl fun G => ?_
  have hI := isReal_fin x a hx
  all_goals (((try refine zR2 ?_) <;> (repeat' (with_reducible first | refine And.intro ?_ ?_ | intro _))) <;> (repeat' ((first | ((with_reducible apply l_callP); exact rfl; exact zEvs; exact rfl; (with_reducible apply hI); (case hF => exact zFsub); (try any_goals (refine propId ?_; omega)))) <;> ((try refine zR2 ?_) <;> (repeat' (with_reducible first | refine And.intro ?_ ?_ | intro _))))))
  refine l_call rfl zEvs rfl (valueOf_spec x a h64 hx) zTake zFsub ?_
  rintro _ L' F' ⟨v, p, hV, hv53, hp1, hp2, z, mz, rfl, rfl, rfl⟩
  have hV2 : VEq a (nv v) (ne v p) := by
    by_cases h0 : v = 0
    · subst h0
      have := hV.zero
      subst this
      have e1 : nv 0 = 0 := by simp [nv]
      rw [e1]; exact VEq.of_zero _
    · have := hV.shift (nv_mul v)
      unfold ne
      rw [if_neg h0]; exact this
  have hN := nv_nrm v p
  have hb : (nv v).natAbs < 2 ^ 53 ∧ -1074 ≤ ne v p ∧ ne v p ≤ 1024 := by
    rcases hN with ⟨h1, h2⟩ | h
    · rw [h1, h2]; exact ⟨by decide, by omega, by omega⟩
    · obtain ⟨q1, q2, q3, _⟩ := hV2.bounds (fv_rep hx) h
      exact ⟨q1, q2, by omega⟩
  all_goals ((try refine zR2 ?_) <;> (repeat' (with_reducible first | refine And.intro ?_ ?_ | intro _)))
  refine l_call rfl zEvs rfl (dyadic_spec z v p mz [oInt z v mz] (.head _) (Nat.lt_trans hv53 (by decide +kernel)) (by omega)) zTake zFsub ?_
  intro rv L' F' hW
  unfold PDyc at hW
  rw [if_pos ⟨Nat.lt_trans hb.1 ((Nat.pow_lt_pow_iff_right (a := 2) (by omega)).2 (by omega)), by omega, by omega⟩] at hW
  obtain ⟨u, rfl, rfl, rfl⟩ := hW
  refine l_isRow (v := u) (.own (.head _)) fun hsu _ => ?_
  all_goals ((try refine zR2 ?_) <;> (repeat' (with_reducible first | refine And.intro ?_ ?_ | intro _)))
  exact e_resT rfl zRes (Lo := [.row u 2 1 (limbs (nv v).natAbs).length ((limbs (nv v).natAbs).map (Value.int .i64))]) zTake fsub_nil ⟨nv v, ne v p, u, hV2, hN, hb.1, hb.2.1, hb.2.2, rfl, rfl, rfl⟩
end Go.Proofs.YtbllgmcpebifhaaGreatDoor.K
end
