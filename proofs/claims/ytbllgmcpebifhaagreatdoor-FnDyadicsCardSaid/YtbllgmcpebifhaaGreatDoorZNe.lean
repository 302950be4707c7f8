/- Large numbers: order, one bit; numbers with a power: one power, differences, order, rounding down. -/
import Derived.Test.YtbllgmcpebifhaaGreatDoorZNc
import Derived.Test.YtbllgmcpebifhaaGreatDoorZNa
import Derived.Test.YtbllgmcpebifhaaGreatDoorZJj

section
namespace Go.Proofs.YtbllgmcpebifhaaGreatDoor.K
open Go Go.RowKit
set_option linter.all false
set_option maxRecDepth 4000
set_option maxHeartbeats 1000000
set_option exponentiation.threshold 8000

/-- Some registers are forgotten. -/
theorem c_regs {G : Ctx} {n : Nat} {P : Program} {Q : Post} {m m' : Regs} {L : List Own} {F : List Fact} {c : Code} (hm : ∀ t v, look m' t = some v → look m t = some v) (h : RunC G n P c Q m' L F) : RunC G n P c Q m L F := fun a w s => h a w (s.regs hm)
/-- A number with a power. -/
abbrev vNum (x : Nat) (p : Int) : Value := .agg #[ptr x, .int .i64 p]
theorem Cmp_spec (z y : Nat) (vz vy : Int) (mz my : Value) (R : List Own) (hz : oInt z vz mz ∈ R) (hy : oInt y vy my ∈ R) :
    Spec Tryz.prog 172 [ptr z, ptr y] R [fDig mz vz.natAbs, fDig my vy.natAbs] (PVal (.int .i64 (if vz < vy then -1 else if vz = vy then 0 else 1)) R) := by
  refine enter Tryz.func172 Tryz.ntmps172 rfl (by kernel_rfl) zCon rfl fun G => ?_
  refine c_dig (mag := mz) (x := vz.natAbs) (.head _) fun a ha => ?_
  refine c_dig (mag := my) (x := vy.natAbs) (.tail _ (.tail _ (.head _))) fun b hb => ?_
  refine c_isList (v := mz) (l := a) zMem fun hs1 => ?_
  refine c_isList (v := my) (l := b) zMem fun hs2 => ?_
  have hzy := cmpDigits_spec mz my a b _ _ ha hb
  have hyz := cmpDigits_spec my mz b a _ _ hb ha
  by_cases h1 : vz < 0
  · by_cases h2 : vy < 0
    · have e1 : decide (vz < 0) = true := decide_eq_true h1
      have e2 : decide (vy < 0) = true := decide_eq_true h2
      rw [oInt, e1] at hz
      rw [oInt, e2] at hy
      all_goals ((try refine zR2 ?_) <;> (repeat' (with_reducible first | refine And.intro ?_ ?_ | intro _)))
      refine c_draw ([9], []) [oBig z true mz, oBig y true my] [0, 1, 2, 3, 4, 5, 6, 7, 8, 9] (by kernel_rfl) (by kernel_rfl) ?_
      all_goals (((try refine zD2 ?_) <;> (repeat' (with_reducible first | refine And.intro ?_ ?_ | intro _))) <;> (repeat' ((first | ((with_reducible apply l_callP); exact rfl; exact zEvs; exact rfl; (with_reducible apply hyz); (case hF => exact zFsub); (try any_goals (refine propId ?_; omega)))) <;> ((try refine zD2 ?_) <;> (repeat' (with_reducible first | refine And.intro ?_ ?_ | intro _))))))
      refine e_res rfl zRes _ [] (fun _ h => h) (fun _ h => h.apart) fsub_nil ⟨?_, rfl, rfl⟩
      simp only [retVal]
      congr 1
      (repeat' split) <;> omega
    · have e1 : decide (vz < 0) = true := decide_eq_true h1
      have e2 : decide (vy < 0) = false := decide_eq_false h2
      rw [oInt, e1] at hz
      rw [oInt, e2] at hy
      all_goals ((try refine zR2 ?_) <;> (repeat' (with_reducible first | refine And.intro ?_ ?_ | intro _)))
      refine e_res rfl zRes _ [] (fun _ h => h) (fun _ h => h.apart) fsub_nil ⟨?_, rfl, rfl⟩
      simp only [retVal]
      congr 1
      rw [if_pos (by omega)]
  · by_cases h2 : vy < 0
    · have e1 : decide (vz < 0) = false := decide_eq_false h1
      have e2 : decide (vy < 0) = true := decide_eq_true h2
      rw [oInt, e1] at hz
      rw [oInt, e2] at hy
      all_goals ((try refine zR2 ?_) <;> (repeat' (with_reducible first | refine And.intro ?_ ?_ | intro _)))
      refine e_res rfl zRes _ [] (fun _ h => h) (fun _ h => h.apart) fsub_nil ⟨?_, rfl, rfl⟩
      simp only [retVal]
      congr 1
      rw [if_neg (by omega), if_neg (by omega)]
    · have e1 : decide (vz < 0) = false := decide_eq_false h1
      have e2 : decide (vy < 0) = false := decide_eq_false h2
      rw [oInt, e1] at hz
      rw [oInt, e2] at hy
      all_goals ((try refine zR2 ?_) <;> (repeat' (with_reducible first | refine And.intro ?_ ?_ | intro _)))
      refine c_draw ([9], []) [oBig z false mz, oBig y false my] [0, 1, 2, 3, 4, 5, 6, 7, 8, 9] (by kernel_rfl) (by kernel_rfl) ?_
      all_goals (((try refine zD2 ?_) <;> (repeat' (with_reducible first | refine And.intro ?_ ?_ | intro _))) <;> (repeat' ((first | ((with_reducible apply l_callP); exact rfl; exact zEvs; exact rfl; (with_reducible apply hzy); (case hF => exact zFsub); (try any_goals (refine propId ?_; omega)))) <;> ((try refine zD2 ?_) <;> (repeat' (with_reducible first | refine And.intro ?_ ?_ | intro _))))))
      refine e_res rfl zRes _ [] (fun _ h => h) (fun _ h => h.apart) fsub_nil ⟨?_, rfl, rfl⟩
      simp only [retVal]
      congr 1
      (repeat' split) <;> omega

/-- Both whole numbers for one power are handed back; R stays. -/
def PAl (v1 v2 m : Int) (R : List Own) (r : Value) (L' : List Own) (F' : List Fact) : Prop := ∃ a b ma mb, r = .tuple #[ptr a, ptr b, .int .i64 m] ∧ L' = oInt b v2 mb :: oInt a v1 ma :: R ∧ F' = [fDig mb v2.natAbs, fDig ma v1.natAbs]
theorem aligned_spec (x y : Nat) (vx vy p q : Int) (mx my : Value) (R : List Own) (hx : oInt x vx mx ∈ R) (hy : oInt y vy my ∈ R) (hvx : vx.natAbs < 4294967296 ^ 990) (hvy : vy.natAbs < 4294967296 ^ 990) (hp : -15000 ≤ p ∧ p ≤ 15000) (hq : -15000 ≤ q ∧ q ≤ 15000) :
    Spec Tryz.prog 167 [vNum x p, vNum y q] R [fDig mx vx.natAbs, fDig my vy.natAbs, fTz] (PAl (vx * 2 ^ (p - min p q).toNat) (vy * 2 ^ (q - min p q).toNat) (min p q) R) := by
  refine enter Tryz.func167 Tryz.ntmps167 rfl (by kernel_rfl) zCon rfl fun G => ?_
  all_goals ((try refine zR2 ?_) <;> (repeat' (with_reducible first | refine And.intro ?_ ?_ | intro _)))
  rename_i b2 b3
  obtain ⟨m, hm⟩ : ∃ m, m = min p q := ⟨_, rfl⟩
  have e1 : shl vx (p - min p q) = vx * 2 ^ (p - min p q).toNat := by unfold shl; rw [if_pos (by omega)]
  have e2 : shl vy (q - min p q) = vy * 2 ^ (q - min p q).toNat := by unfold shl; rw [if_pos (by omega)]
  refine c_regs (m' := [(7, .int .i64 (min p q)), (2, ptr b2), (3, ptr b3)]) zSub ?_
  refine c_draw ([17], []) [.box b2 [ptr x, .int .i64 p] 111, .box b3 [ptr y, .int .i64 q] 111] [0, 1, 2, 3, 4, 5, 7, 8, 9, 10, 11, 12, 14, 6, 13, 15, 16, 17] (by kernel_rfl) (by kernel_rfl) ?_
  all_goals ((try refine zD2 ?_) <;> (repeat' (with_reducible first | refine And.intro ?_ ?_ | intro _)))
  refine l_callA rfl zEvs rfl (shifted_spec x vx (p - min p q) mx _ (by omega) (.tail _ (.tail _ hx)) hvx) zFsub ?_
  rintro _ L' F' ⟨a, ma, rfl, rfl, rfl⟩
  rw [e1]
  all_goals ((try refine zD2 ?_) <;> (repeat' (with_reducible first | refine And.intro ?_ ?_ | intro _)))
  refine l_callA rfl zEvs rfl (shifted_spec y vy (q - min p q) my _ (by omega) (.tail _ (.tail _ (.tail _ hy))) hvy) zFsub ?_
  rintro _ L' F' ⟨b, mb, rfl, rfl, rfl⟩
  rw [e2]
  all_goals ((try refine zD2 ?_) <;> (repeat' (with_reducible first | refine And.intro ?_ ?_ | intro _)))
  exact e_resT rfl zRes (Lo := oInt b _ mb :: oInt a _ ma :: R) zTake (fsub_cons zMem (fsub_cons zMem fsub_nil)) ⟨a, b, ma, mb, rfl, rfl, rfl⟩

/-- A number with a power is handed back; R stays. -/
def PNumR (v p : Int) (R : List Own) (r : Value) (L' : List Own) (F' : List Fact) : Prop := ∃ a ma, r = vNum a p ∧ L' = oInt a v ma :: R ∧ F' = [fDig ma v.natAbs]
theorem minus_spec (x y : Nat) (vx vy p q : Int) (mx my : Value) (R : List Own) (hx : oInt x vx mx ∈ R) (hy : oInt y vy my ∈ R) (hvx : vx.natAbs < 4294967296 ^ 990) (hvy : vy.natAbs < 4294967296 ^ 990) (hp : -15000 ≤ p ∧ p ≤ 15000) (hq : -15000 ≤ q ∧ q ≤ 15000)
    (h1 : (vx * 2 ^ (p - min p q).toNat).natAbs < 4294967296 ^ 900) (h2 : (vy * 2 ^ (q - min p q).toNat).natAbs < 4294967296 ^ 900) :
    Spec Tryz.prog 104 [vNum x p, vNum y q] R [fDig mx vx.natAbs, fDig my vy.natAbs, fTz] (PNumR (vx * 2 ^ (p - min p q).toNat - vy * 2 ^ (q - min p q).toNat) (min p q) R) := by
  refine enter Tryz.func104 Tryz.ntmps104 rfl (by kernel_rfl) zCon rfl fun G => ?_
  all_goals ((try refine zR2 ?_) <;> (repeat' (with_reducible first | refine And.intro ?_ ?_ | intro _)))
  refine l_callA rfl zEvs rfl (aligned_spec x y vx vy p q mx my _ (.tail _ (.tail _ (.tail _ hx))) (.tail _ (.tail _ (.tail _ hy))) hvx hvy hp hq) zFsub ?_
  rintro _ L' F' ⟨a, b, ma, mb, rfl, rfl, rfl⟩
  generalize vx * 2 ^ (p - min p q).toNat = v1 at h1 ⊢
  generalize vy * 2 ^ (q - min p q).toNat = v2 at h2 ⊢
  all_goals ((try refine zR2 ?_) <;> (repeat' (with_reducible first | refine And.intro ?_ ?_ | intro _)))
  refine l_call rfl zEvs rfl (Sub_spec a a b v1 v2 (decide (v1 < 0)) ma ma mb [oInt b v2 mb] (.head _) (.tail _ (.head _)) h1 h2) zTake zFsub ?_
  rintro _ L' F' ⟨mr, rfl, rfl, rfl⟩
  all_goals ((try refine zR2 ?_) <;> (repeat' (with_reducible first | refine And.intro ?_ ?_ | intro _)))
  exact e_resT rfl zRes (Lo := oInt a _ mr :: R) zTake (fsub_cons zMem fsub_nil) ⟨a, mr, rfl, rfl, rfl⟩
theorem compare_spec (x y : Nat) (vx vy p q : Int) (mx my : Value) (R : List Own) (hx : oInt x vx mx ∈ R) (hy : oInt y vy my ∈ R) (hvx : vx.natAbs < 4294967296 ^ 990) (hvy : vy.natAbs < 4294967296 ^ 990) (hp : -15000 ≤ p ∧ p ≤ 15000) (hq : -15000 ≤ q ∧ q ≤ 15000) :
    Spec Tryz.prog 98 [vNum x p, vNum y q] R [fDig mx vx.natAbs, fDig my vy.natAbs, fTz] (PVal (.int .i64 (if vx * 2 ^ (p - min p q).toNat < vy * 2 ^ (q - min p q).toNat then -1 else if vx * 2 ^ (p - min p q).toNat = vy * 2 ^ (q - min p q).toNat then 0 else 1)) R) := by
  refine enter Tryz.func98 Tryz.ntmps98 rfl (by kernel_rfl) zCon rfl fun G => ?_
  all_goals ((try refine zR2 ?_) <;> (repeat' (with_reducible first | refine And.intro ?_ ?_ | intro _)))
  refine l_callA rfl zEvs rfl (aligned_spec x y vx vy p q mx my _ (.tail _ (.tail _ hx)) (.tail _ (.tail _ hy)) hvx hvy hp hq) zFsub ?_
  rintro _ L' F' ⟨a, b, ma, mb, rfl, rfl, rfl⟩
  generalize vx * 2 ^ (p - min p q).toNat = v1
  generalize vy * 2 ^ (q - min p q).toNat = v2
  all_goals ((try refine zR2 ?_) <;> (repeat' (with_reducible first | refine And.intro ?_ ?_ | intro _)))
  refine l_callVA rfl zEvs rfl (Cmp_spec a b v1 v2 ma mb _ zMem zMem) zFsub ?_
  generalize (if v1 < v2 then (-1 : Int) else if v1 = v2 then 0 else 1) = s
  all_goals ((try refine zR2 ?_) <;> (repeat' (with_reducible first | refine And.intro ?_ ?_ | intro _)))
  exact e_resT rfl zRes (Lo := R) zTake fsub_nil ⟨rfl, rfl, rfl⟩
theorem floor_spec (x : Nat) (v p k : Int) (mx : Value) (R : List Own) (hx : oInt x v mx ∈ R) (hv : v.natAbs < 4294967296 ^ 990) (hp : -15000 ≤ p ∧ p ≤ 15000) (hk : -15000 ≤ k ∧ k ≤ 15000) :
    Spec Tryz.prog 109 [vNum x p, .int .i64 k] R [fDig mx v.natAbs, fTz] (PNew (shl v (p + k)) R) := by
  refine enter Tryz.func109 Tryz.ntmps109 rfl (by kernel_rfl) zCon rfl fun G => ?_
  all_goals ((try refine zR2 ?_) <;> (repeat' (with_reducible first | refine And.intro ?_ ?_ | intro _)))
  refine l_callA rfl zEvs rfl (shifted_spec x v (p + k) mx _ (by omega) (.tail _ hx) hv) zFsub ?_
  rintro _ L' F' ⟨a, ma, rfl, rfl, rfl⟩
  all_goals ((try refine zR2 ?_) <;> (repeat' (with_reducible first | refine And.intro ?_ ?_ | intro _)))
  exact e_resT rfl zRes (Lo := oInt a _ ma :: R) zTake (fsub_cons zMem fsub_nil) ⟨a, ma, rfl, rfl, rfl⟩
end Go.Proofs.YtbllgmcpebifhaaGreatDoor.K
end

section
/- The program's exact number of a float. -/
namespace Go.Proofs.YtbllgmcpebifhaaGreatDoor.K
open Go Go.RowKit
set_option linter.all false
set_option maxRecDepth 4000
set_option maxHeartbeats 1000000
set_option exponentiation.threshold 40000

theorem ends_nilRow {G : Ctx} {n : Nat} {Q : Post} {m : Regs} {L : List Own} {F : List Fact} {e : Exit} {E : TypeId} (s : Nat) (h : Ends G n Q e m (.row (.slice none 0 0) E s 0 [] :: L) F) : Ends G n Q e m L F :=
  fun a w st => h a w (st.add (Keep.refl _ _) (World.ownsRow_nil w 0 E s) fun x hx => by simp [Own.key, Value.ownBlock] at hx)
/-- What dyadic hands back; R stays. -/
def PDyc (v p : Int) (R : List Own) (r : Value) (L' : List Own) (F' : List Fact) : Prop :=
  if (nv v).natAbs < 2 ^ 4800 ∧ -5000 ≤ ne v p ∧ ne v p ≤ 5000 then ∃ u, r = .tuple #[vDyadic (sgn (nv v)) u (ne v p), .int .i64 0] ∧ L' = .row u 2 1 (limbs (nv v).natAbs).length ((limbs (nv v).natAbs).map (Value.int .i64)) :: R ∧ F' = []
  else r = .tuple #[vDyadic 0 (.slice none 0 0) 0, .int .i64 3] ∧ L' = R ∧ F' = []
theorem nv_div (v : Int) : v / 2 ^ twos v.natAbs = nv v := by
  have h := nv_mul v
  have e : (2 : Int) ^ twos v.natAbs = ((2 ^ twos v.natAbs : Nat) : Int) := by simp
  rw [e]
  conv => lhs; lhs; rw [← h]
  exact Int.mul_ediv_cancel _ (Int.ne_of_gt (pw_pos _))
theorem dyadic_spec (x : Nat) (v p : Int) (mx : Value) (R : List Own) (hx : oInt x v mx ∈ R) (hv : v.natAbs < 4294967296 ^ 800) (hp : -100000 ≤ p ∧ p ≤ 100000) :
    Spec Tryz.prog 110 [vNum x p] R [fDig mx v.natAbs, fTz] (PDyc v p R) := by
  refine enter Tryz.func110 Tryz.ntmps110 rfl (by kernel_rfl) zCon rfl fun G => ?_
  have hv1000 : v.natAbs < 4294967296 ^ 1000 := Nat.lt_of_lt_of_le hv (Nat.pow_le_pow_right (by omega) (by omega))
  have hv990 : v.natAbs < 4294967296 ^ 990 := Nat.lt_of_lt_of_le hv (Nat.pow_le_pow_right (by omega) (by omega))
  have hv900 : v.natAbs < 4294967296 ^ 900 := Nat.lt_of_lt_of_le hv (Nat.pow_le_pow_right (by omega) (by omega))
  all_goals ((try refine zR2 ?_) <;> (repeat' (with_reducible first | refine And.intro ?_ ?_ | intro _)))
  refine l_callVA rfl zEvs rfl (Sign_spec x v mx _ (.tail _ (.tail _ hx))) zFsub ?_
  by_cases h0 : v = 0
  · subst h0
    rw [show sgn 0 = 0 from rfl]
    all_goals ((try refine zR2 ?_) <;> (repeat' (with_reducible first | refine And.intro ?_ ?_ | intro _)))
    all_goals (first | (exfalso; omega) | skip)
    refine ends_nilRow (E := 2) 1 ?_
    refine e_resT rfl zRes (Lo := .row (.slice none 0 0) 2 1 0 [] :: R) zTake fsub_nil ?_
    unfold PDyc
    have e1 : nv 0 = 0 := by simp [nv]
    have e2 : ne 0 p = 0 := by simp [ne]
    rw [e1, e2, if_pos ⟨by decide, by omega, by omega⟩]
    exact ⟨.slice none 0 0, rfl, by simp [limbs_zero], rfl⟩
  · have hs0 : ¬ sgn v = 0 := fun h => h0 (sgn_zero.1 h)
    have htl : twos v.natAbs ≤ 25600 := twos_blen (by rw [show (4294967296 : Nat) = 2 ^ 32 by decide, ← Nat.pow_mul] at hv; exact hv)
    all_goals ((try refine zR2 ?_) <;> (repeat' (with_reducible first | refine And.intro ?_ ?_ | intro _)))
    all_goals first | (exfalso; contradiction) | skip
    refine l_callVA rfl zEvs rfl (TrailingZeroBits_spec x v mx _ (.tail _ (.tail _ hx)) hv1000) zFsub ?_
    all_goals ((try refine zR2 ?_) <;> (repeat' (with_reducible first | refine And.intro ?_ ?_ | intro _)))
    rename_i b17
    refine l_callIA rfl zEvs rfl (RshG_spec b17 x v false _ mx _ (twos v.natAbs) (by omega) (.tail _ (.tail _ (.tail _ hx))) hv990) zFsub fun mr => ?_
    rw [nv_div]
    all_goals ((try refine zR2 ?_) <;> (repeat' (with_reducible first | refine And.intro ?_ ?_ | intro _)))
    have hnv : (nv v).natAbs < 4294967296 ^ 900 := Nat.lt_of_le_of_lt (nv_le v) hv900
    refine l_callA rfl zEvs rfl (whole_spec b17 (nv v) mr _ (.head _) hnv) zFsub ?_
    intro rv L' F' hW
    unfold PWhole at hW
    have hne : ne v p = p + twos v.natAbs := by unfold ne; rw [if_neg h0]
    by_cases hbig : (nv v).natAbs < 2 ^ 4800
    · rw [if_pos hbig] at hW
      obtain ⟨u, rfl, rfl, rfl⟩ := hW
      refine l_isRow (v := u) (.own (.head _)) fun hsu _ => ?_
      all_goals (((try refine zR2 ?_) <;> (repeat' (with_reducible first | refine And.intro ?_ ?_ | intro _))) <;> (repeat' ((first | ((with_reducible apply l_callP); exact rfl; exact zEvs; exact rfl; (with_reducible apply between_spec); (case hF => exact zFsub); (try any_goals (refine propId ?_; omega)))) <;> ((try refine zR2 ?_) <;> (repeat' (with_reducible first | refine And.intro ?_ ?_ | intro _))))))
      · have hnb : ¬ (-5000 ≤ p + (twos v.natAbs : Int) ∧ p + (twos v.natAbs : Int) ≤ 5000) := by assumption
        refine e_resT rfl zRes (Lo := R) zTake fsub_nil ?_
        unfold PDyc
        rw [if_neg (by rw [hne]; exact fun h => hnb h.2)]
        exact ⟨rfl, rfl, rfl⟩
      · have hnb : ¬ ¬ (-5000 ≤ p + (twos v.natAbs : Int) ∧ p + (twos v.natAbs : Int) ≤ 5000) := by assumption
        have hnb := Decidable.of_not_not hnb
        refine e_resT rfl zRes (Lo := .row u 2 1 (limbs (nv v).natAbs).length ((limbs (nv v).natAbs).map (Value.int .i64)) :: R) zTake fsub_nil ?_
        unfold PDyc
        rw [if_pos (by rw [hne]; exact ⟨hbig, hnb⟩)]
        exact ⟨u, by rw [hne]; rfl, rfl, rfl⟩
    · rw [if_neg hbig] at hW
      obtain ⟨rfl, rfl, rfl⟩ := hW
      all_goals (((try refine zR2 ?_) <;> (repeat' (with_reducible first | refine And.intro ?_ ?_ | intro _))) <;> (repeat' ((first | ((with_reducible apply l_callP); exact rfl; exact zEvs; exact rfl; (with_reducible apply between_spec); (case hF => exact zFsub); (try any_goals (refine propId ?_; omega)))) <;> ((try refine zR2 ?_) <;> (repeat' (with_reducible first | refine And.intro ?_ ?_ | intro _))))))
      refine e_resT rfl zRes (Lo := R) zTake fsub_nil ?_
      unfold PDyc
      rw [if_neg (fun h => hbig h.1)]
      exact ⟨rfl, rfl, rfl⟩

end Go.Proofs.YtbllgmcpebifhaaGreatDoor.K
end
