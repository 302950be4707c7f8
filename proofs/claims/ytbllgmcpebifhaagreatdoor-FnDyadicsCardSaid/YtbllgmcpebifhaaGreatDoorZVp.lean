/- The program's sums, differences, order, floors and ceilings of exact numbers. -/
import Derived.Test.YtbllgmcpebifhaaGreatDoorZNg

section
namespace Go.Proofs.YtbllgmcpebifhaaGreatDoor.K
open Go Go.RowKit Go.Lib
set_option linter.all false
set_option maxRecDepth 4000
set_option maxHeartbeats 1000000
set_option exponentiation.threshold 40000

theorem isD_form {sg e : Int} {l : List Int} (h : IsD sg e l) : ∃ v : Int, sg = sgn v ∧ l = limbs v.natAbs ∧ Nrm v e ∧ v.natAbs < 2 ^ 4800 ∧ -5000 ≤ e ∧ e ≤ 5000 := by
  have hw := h.1
  have hu := limbs_uniq l hw.inR hw.trim
  obtain ⟨v, hv1, hv2⟩ : ∃ v : Int, sg = sgn v ∧ v.natAbs = vl 16777216 l := by
    by_cases h0 : l = []
    · refine ⟨0, ?_, by rw [h0]; rfl⟩
      have := hw.2
      rw [if_pos h0] at this
      exact this
    · have hs := hw.2
      rw [if_neg h0] at hs
      have hp := hw.trim.pos (by omega) hw.inR (List.length_pos_iff.2 h0)
      have hsg : sg = 1 ∨ sg = -1 := hs.2.2
      refine ⟨sg * (vl 16777216 l : Int), ?_, ?_⟩
      · unfold sgn
        rcases hsg with rfl | rfl
        · rw [if_neg (by omega), if_neg (by omega)]
        · rw [if_neg (by omega), if_pos (by omega)]
      · rcases hsg with rfl | rfl <;> omega
  rw [← hv2] at hu
  subst hv1
  rw [hu] at h
  exact ⟨v, rfl, hu, isD_nrm h⟩
theorem pw_cast (k : Nat) : ((2 ^ k : Nat) : Int) = (2 : Int) ^ k := by simp
/-- What is handed back for a number: the exact number and its code. -/
def dr (v p : Int) : (Int × Int) × Int := if (nv v).natAbs < 2 ^ 4800 ∧ -5000 ≤ ne v p ∧ ne v p ≤ 5000 then ((nv v, ne v p), 0) else ((0, 0), 3)
def PRs (d : (Int × Int) × Int) (r : Value) (L' : List Own) (F' : List Fact) : Prop := ∃ u, r = .tuple #[vDyadic (sgn d.1.1) u d.1.2, .int .i64 d.2] ∧ L' = [] ∧ F' = [fList 1 (rInt .i64) u (limbs d.1.1.natAbs)]
theorem PDyc.case {v p : Int} {R : List Own} {r : Value} {L' : List Own} {F' : List Fact} (h : PDyc v p R r L' F') :
    (dr v p = ((nv v, ne v p), 0) ∧ ∃ u, r = .tuple #[vDyadic (sgn (nv v)) u (ne v p), .int .i64 0] ∧ L' = .row u 2 1 (limbs (nv v).natAbs).length ((limbs (nv v).natAbs).map (Value.int .i64)) :: R ∧ F' = []) ∨
    (dr v p = ((0, 0), 3) ∧ r = .tuple #[vDyadic 0 (.slice none 0 0) 0, .int .i64 3] ∧ L' = R ∧ F' = []) := by
  unfold PDyc at h
  unfold dr
  by_cases hc : (nv v).natAbs < 2 ^ 4800 ∧ -5000 ≤ ne v p ∧ ne v p ≤ 5000
  · rw [if_pos hc] at h ⊢
    exact .inl ⟨rfl, h⟩
  · rw [if_neg hc] at h ⊢
    exact .inr ⟨rfl, h⟩
theorem dvalueR_spec (u : Value) (v e : Int) (hD : IsD (sgn v) e (limbs v.natAbs)) :
    Spec Tryz.prog 97 [vDyadic (sgn v) u e] [] [fList 1 (rInt .i64) u (limbs v.natAbs)] (PNumR v e []) := dvalue_spec u v e hD
theorem plus_spec (x y : Nat) (vx vy p q : Int) (mx my : Value) (R : List Own) (hx : oInt x vx mx ∈ R) (hy : oInt y vy my ∈ R) (hvx : vx.natAbs < 4294967296 ^ 990) (hvy : vy.natAbs < 4294967296 ^ 990) (hp : -15000 ≤ p ∧ p ≤ 15000) (hq : -15000 ≤ q ∧ q ≤ 15000)
    (h1 : (vx * 2 ^ (p - min p q).toNat).natAbs < 4294967296 ^ 900) (h2 : (vy * 2 ^ (q - min p q).toNat).natAbs < 4294967296 ^ 900) :
    Spec Tryz.prog 93 [vNum x p, vNum y q] R [fDig mx vx.natAbs, fDig my vy.natAbs, fTz] (PNumR (vx * 2 ^ (p - min p q).toNat + vy * 2 ^ (q - min p q).toNat) (min p q) R) := by
  refine enter Tryz.func93 Tryz.ntmps93 rfl (by kernel_rfl) zCon rfl fun G => ?_
  all_goals ((try refine zR2 ?_) <;> (repeat' (with_reducible first | refine And.intro ?_ ?_ | intro _)))
  refine l_callA rfl zEvs rfl (aligned_spec x y vx vy p q mx my _ (.tail _ (.tail _ (.tail _ hx))) (.tail _ (.tail _ (.tail _ hy))) hvx hvy hp hq) zFsub ?_
  rintro _ L' F' ⟨a, b, ma, mb, rfl, rfl, rfl⟩
  generalize vx * 2 ^ (p - min p q).toNat = v1 at h1 ⊢
  generalize vy * 2 ^ (q - min p q).toNat = v2 at h2 ⊢
  all_goals ((try refine zR2 ?_) <;> (repeat' (with_reducible first | refine And.intro ?_ ?_ | intro _)))
  refine l_call rfl zEvs rfl (Add_spec a a b v1 v2 (decide (v1 < 0)) ma ma mb [oInt b v2 mb] (.head _) (.tail _ (.head _)) h1 h2) zTake zFsub ?_
  rintro _ L' F' ⟨mr, rfl, rfl, rfl⟩
  all_goals ((try refine zR2 ?_) <;> (repeat' (with_reducible first | refine And.intro ?_ ?_ | intro _)))
  exact e_resT rfl zRes (Lo := oInt a _ mr :: R) zTake (fsub_cons zMem fsub_nil) ⟨a, mr, rfl, rfl, rfl⟩
theorem b4800 {v : Int} (h : v.natAbs < 2 ^ 4800) (k : Nat) (hk : 150 ≤ k) : v.natAbs < 4294967296 ^ k := by
  rw [show (4294967296 : Nat) = 2 ^ 32 by decide, ← Nat.pow_mul]
  exact Nat.lt_of_lt_of_le h (Nat.pow_le_pow_right (by omega) (by omega))
theorem b14800 {v : Int} (h : v.natAbs < 2 ^ 4800) (n : Nat) (hn : n ≤ 10000) (k : Nat) (hk : 500 ≤ k) : (v * 2 ^ n).natAbs < 4294967296 ^ k := by
  rw [← pw_cast, natAbs_pw, show (4294967296 : Nat) = 2 ^ 32 by decide, ← Nat.pow_mul]
  exact Nat.lt_of_lt_of_le (pw_lt h n (Nat.le_refl _)) (Nat.pow_le_pow_right (by omega) (by omega))
theorem sumV_b {v1 e1 v2 e2 : Int} (hl1 : v1.natAbs < 2 ^ 4800) (hl2 : v2.natAbs < 2 ^ 4800) (he1 : -5000 ≤ e1 ∧ e1 ≤ 5000) (he2 : -5000 ≤ e2 ∧ e2 ≤ 5000) : (sumV v1 e1 v2 e2).natAbs < 2 ^ 14801 := by
  have hb1 : (v1 * (2 ^ (e1 - min e1 e2).toNat : Nat)).natAbs < 2 ^ 14800 := by rw [natAbs_pw]; exact pw_lt hl1 _ (by omega)
  have hb2 : (v2 * (2 ^ (e2 - min e1 e2).toNat : Nat)).natAbs < 2 ^ 14800 := by rw [natAbs_pw]; exact pw_lt hl2 _ (by omega)
  have : (sumV v1 e1 v2 e2).natAbs ≤ (v1 * (2 ^ (e1 - min e1 e2).toNat : Nat)).natAbs + (v2 * (2 ^ (e2 - min e1 e2).toNat : Nat)).natAbs := Int.natAbs_add_le _ _
  rw [Nat.pow_succ]
  generalize (2 : Nat) ^ 14800 = W at hb1 hb2 ⊢
  omega
/-- A call of a function that stands in a register; all that is owned goes along. -/
theorem l_callRA {G : Ctx} {n : Nat} {P : Program} {ops : Array Oper} {Q : Post} {rest : List Oper} {m : Regs} {L : List Own} {F : List Fact} {d : Nat} {ty : TypeId} {pos : String} {af : Array Edge} {g : Option (Nat × Bool)} {f : FuncId} {x : Operand} {xs : List Operand} {vs : List Value} {ts : Array TypeId} {Fc : List Fact} {post : Value → List Own → List Fact → Prop}
    (hw : wantG ops m g = some true) (hx : ev m x = some (.func (.func f) #[] #[])) (hv : Evs m xs vs) (hd : Nat.blt d n = true) (hs : Spec P f vs L Fc post) (hF : ∀ φ, φ ∈ Fc → φ ∈ F)
    (h : ∀ v L' F', post v L' F' → RunL G n P ops Q rest ((d, v) :: m) L' (F' ++ F)) :
    RunL G n P ops Q (⟨some d, .call ⟨.value x, xs.toArray, ts⟩, ty, pos, af, g⟩ :: rest) m L F :=
  l_callF (first := []) (cap := []) hw hx hv hd (by simpa using hs) (takeAll L) hF fun v L' F' hp => by rw [List.append_nil]; exact h v L' F' hp
theorem pairOf_bad (f : FuncId) (s1 s2 e1 e2 : Int) (u1 u2 : Value) (l1 l2 : List Int) (h : ¬ (IsD s1 e1 l1 ∧ IsD s2 e2 l2)) :
    Spec Tryz.prog 92 [vDyadic s1 u1 e1, vDyadic s2 u2 e2, .func (.func f) #[] #[]] [] [fList 1 (rInt .i64) u1 l1, fList 1 (rInt .i64) u2 l2] (PRs ((0, 0), 1)) := by
  refine enter Tryz.func92 Tryz.ntmps92 rfl (by kernel_rfl) zCon rfl fun G => ?_
  refine c_isList (v := u1) zMem fun hs1 => ?_
  refine c_isList (v := u2) zMem fun hs2 => ?_
  have hI1 := IsDyadic_spec s1 e1 u1 l1
  have hI2 := IsDyadic_spec s2 e2 u2 l2
  all_goals (((try refine zR2 ?_) <;> (repeat' (with_reducible first | refine And.intro ?_ ?_ | intro _))) <;> (repeat' ((first | ((with_reducible apply l_callP); exact rfl; exact zEvs; exact rfl; (with_reducible apply hI1); (case hF => exact zFsub); (try any_goals (refine propId ?_; omega))) | ((with_reducible apply l_callP); exact rfl; exact zEvs; exact rfl; (with_reducible apply hI2); (case hF => exact zFsub); (try any_goals (refine propId ?_; omega)))) <;> ((try refine zR2 ?_) <;> (repeat' (with_reducible first | refine And.intro ?_ ?_ | intro _))))))
  all_goals first | (exfalso; simp_all; done) | skip
  all_goals (
    refine ends_nilInts .i64 ?_
    exact e_resT rfl zRes .nil (fsub_cons (.head _) fsub_nil) ⟨.slice none 0 0, rfl, rfl, by simp [limbs_zero]⟩)
theorem pairOf_spec (f : FuncId) (S : Int) (v1 e1 v2 e2 : Int) (u1 u2 : Value) (hD1 : IsD (sgn v1) e1 (limbs v1.natAbs)) (hD2 : IsD (sgn v2) e2 (limbs v2.natAbs)) (hS : S.natAbs < 2 ^ 14801)
    (hf : ∀ (x y : Nat) (mx my : Value) (R : List Own), oInt x v1 mx ∈ R → oInt y v2 my ∈ R → Spec Tryz.prog f [vNum x e1, vNum y e2] R [fDig mx v1.natAbs, fDig my v2.natAbs, fTz] (PNumR S (min e1 e2) R)) :
    Spec Tryz.prog 92 [vDyadic (sgn v1) u1 e1, vDyadic (sgn v2) u2 e2, .func (.func f) #[] #[]] [] [fList 1 (rInt .i64) u1 (limbs v1.natAbs), fList 1 (rInt .i64) u2 (limbs v2.natAbs), fTz] (PRs (dr S (min e1 e2))) := by
  refine enter Tryz.func92 Tryz.ntmps92 rfl (by kernel_rfl) zCon rfl fun G => ?_
  refine c_isList (v := u1) zMem fun hs1 => ?_
  refine c_isList (v := u2) zMem fun hs2 => ?_
  have hI1 := IsDyadic_spec (sgn v1) e1 u1 (limbs v1.natAbs)
  have hI2 := IsDyadic_spec (sgn v2) e2 u2 (limbs v2.natAbs)
  rw [decide_eq_true hD1] at hI1
  rw [decide_eq_true hD2] at hI2
  have he1 := hD1.2.1
  have he2 := hD2.2.1
  have hS800 : S.natAbs < 4294967296 ^ 800 := by
    rw [show (4294967296 : Nat) = 2 ^ 32 by decide, ← Nat.pow_mul]
    exact Nat.lt_of_lt_of_le hS (Nat.pow_le_pow_right (by omega) (by omega))
  clear hS
  all_goals (((try refine zR2 ?_) <;> (repeat' (with_reducible first | refine And.intro ?_ ?_ | intro _))) <;> (repeat' ((first | ((with_reducible apply l_callP); exact rfl; exact zEvs; exact rfl; (with_reducible apply hI1); (case hF => exact zFsub); (try any_goals (refine propId ?_; omega))) | ((with_reducible apply l_callP); exact rfl; exact zEvs; exact rfl; (with_reducible apply hI2); (case hF => exact zFsub); (try any_goals (refine propId ?_; omega)))) <;> ((try refine zR2 ?_) <;> (repeat' (with_reducible first | refine And.intro ?_ ?_ | intro _))))))
  all_goals (first | (exfalso; omega) | skip)
  rename_i b3 b4 b6
  refine c_draw ([10], []) [.box b3 [.int .i64 (sgn v1), u1, .int .i64 e1] 48, .box b4 [.int .i64 (sgn v2), u2, .int .i64 e2] 48] [0, 1, 3, 2, 4, 5, 6, 7, 8, 9, 10] (by kernel_rfl) (by kernel_rfl) ?_
  all_goals ((try refine zD2 ?_) <;> (repeat' (with_reducible first | refine And.intro ?_ ?_ | intro _)))
  refine l_call rfl zEvs rfl (dvalueR_spec u1 v1 e1 hD1) zTake zFsub ?_
  rintro _ L' F' ⟨a, ma, rfl, rfl, rfl⟩
  all_goals ((try refine zD2 ?_) <;> (repeat' (with_reducible first | refine And.intro ?_ ?_ | intro _)))
  refine l_call rfl zEvs rfl (dvalueR_spec u2 v2 e2 hD2) zTake zFsub ?_
  rintro _ L' F' ⟨b, mb, rfl, rfl, rfl⟩
  all_goals ((try refine zD2 ?_) <;> (repeat' (with_reducible first | refine And.intro ?_ ?_ | intro _)))
  refine l_callRA rfl rfl zEvs rfl (hf a b ma mb _ zMem zMem) zFsub ?_
  rintro _ L' F' ⟨z, mz, rfl, rfl, rfl⟩
  all_goals ((try refine zD2 ?_) <;> (repeat' (with_reducible first | refine And.intro ?_ ?_ | intro _)))
  refine l_callA rfl zEvs rfl (dyadic_spec z S (min e1 e2) mz _ zMem hS800 (by omega)) zFsub ?_
  intro rv L' F' hp
  rcases hp.case with ⟨hd, u, rfl, rfl, rfl⟩ | ⟨hd, rfl, rfl, rfl⟩
  · rw [hd]
    refine l_freezeInts (ik := .i64) (l := limbs (nv S).natAbs) .head rfl ?_
    refine l_isList (.head _) fun hsu => ?_
    all_goals ((try refine zD2 ?_) <;> (repeat' (with_reducible first | refine And.intro ?_ ?_ | intro _)))
    exact e_resT rfl zRes .nil (fsub_cons zMem fsub_nil) ⟨u, rfl, rfl, rfl⟩
  · rw [hd]
    refine l_nilInts .i64 ?_
    all_goals ((try refine zD2 ?_) <;> (repeat' (with_reducible first | refine And.intro ?_ ?_ | intro _)))
    exact e_resT rfl zRes .nil (fsub_cons zMem fsub_nil) ⟨.slice none 0 0, rfl, rfl, by simp [limbs_zero]⟩
end Go.Proofs.YtbllgmcpebifhaaGreatDoor.K
end

section
/- The program's floors and ceilings of exact numbers; its texts. -/
namespace Go.Proofs.YtbllgmcpebifhaaGreatDoor.K
open Go Go.RowKit Go.Lib
set_option linter.all false
set_option maxRecDepth 4000
set_option maxHeartbeats 1000000
set_option exponentiation.threshold 40000

/-- The code of an exact number and a number of the range. -/
def dcode (sg e : Int) (l : List Int) (k : Int) : Int := if IsD sg e l then (if -1000 ≤ k ∧ k ≤ 1000 then 0 else 2) else 1
theorem dyadicCode_spec (sg e k : Int) (u : Value) (l : List Int) : Spec Tryz.prog 108 [vDyadic sg u e, .int .i64 k, .int .i64 (-1000), .int .i64 1000] [] [fList 1 (rInt .i64) u l] (Gives (.int .i64 (dcode sg e l k))) := by
  have hI := IsDyadic_spec sg e u l
  have hB := between_spec k (-1000) 1000
  refine enter Tryz.func108 Tryz.ntmps108 rfl (by kernel_rfl) zCon rfl fun G => ?_
  refine c_isList (v := u) zMem fun hs1 => ?_
  unfold dcode
  by_cases hD : IsD sg e l
  · rw [decide_eq_true hD] at hI
    rw [if_pos hD]
    by_cases hk : -1000 ≤ k ∧ k ≤ 1000
    · rw [decide_eq_true hk] at hB
      rw [if_pos hk]
      all_goals (((try refine zR2 ?_) <;> (repeat' (with_reducible first | refine And.intro ?_ ?_ | intro _))) <;> (repeat' ((first | ((with_reducible apply l_callP); exact rfl; exact zEvs; exact rfl; (with_reducible apply hI); (case hF => exact zFsub); (try any_goals (refine propId ?_; omega))) | ((with_reducible apply l_callP); exact rfl; exact zEvs; exact rfl; (with_reducible apply hB); (case hF => exact zFsub); (try any_goals (refine propId ?_; omega)))) <;> ((try refine zR2 ?_) <;> (repeat' (with_reducible first | refine And.intro ?_ ?_ | intro _))))))
      all_goals (first | (exfalso; omega) | skip)
      (refine e_gives rfl zRes ?_; first | rfl | (simp [retVal, *]; done) | (simp_all [retVal]; done) | (simp only [retVal]))
    · rw [decide_eq_false hk] at hB
      rw [if_neg hk]
      all_goals (((try refine zR2 ?_) <;> (repeat' (with_reducible first | refine And.intro ?_ ?_ | intro _))) <;> (repeat' ((first | ((with_reducible apply l_callP); exact rfl; exact zEvs; exact rfl; (with_reducible apply hI); (case hF => exact zFsub); (try any_goals (refine propId ?_; omega))) | ((with_reducible apply l_callP); exact rfl; exact zEvs; exact rfl; (with_reducible apply hB); (case hF => exact zFsub); (try any_goals (refine propId ?_; omega)))) <;> ((try refine zR2 ?_) <;> (repeat' (with_reducible first | refine And.intro ?_ ?_ | intro _))))))
      all_goals (first | (exfalso; omega) | skip)
      (refine e_gives rfl zRes ?_; first | rfl | (simp [retVal, *]; done) | (simp_all [retVal]; done) | (simp only [retVal]))
  · rw [decide_eq_false hD] at hI
    rw [if_neg hD]
    all_goals (((try refine zR2 ?_) <;> (repeat' (with_reducible first | refine And.intro ?_ ?_ | intro _))) <;> (repeat' ((first | ((with_reducible apply l_callP); exact rfl; exact zEvs; exact rfl; (with_reducible apply hI); (case hF => exact zFsub); (try any_goals (refine propId ?_; omega)))) <;> ((try refine zR2 ?_) <;> (repeat' (with_reducible first | refine And.intro ?_ ?_ | intro _))))))
    all_goals (first | (exfalso; omega) | skip)
    (refine e_gives rfl zRes ?_; first | rfl | (simp [retVal, *]; done) | (simp_all [retVal]; done) | (simp only [retVal]))
theorem ceil_spec (x : Nat) (v p k : Int) (mx : Value) (R : List Own) (hx : oInt x v mx ∈ R) (hv : v.natAbs < 4294967296 ^ 990) (hp : -15000 ≤ p ∧ p ≤ 15000) (hk : -15000 ≤ k ∧ k ≤ 15000) (hs : (shl (-v) (p + k)).natAbs < 4294967296 ^ 990) :
    Spec Tryz.prog 113 [vNum x p, .int .i64 k] R [fDig mx v.natAbs, fTz] (PNew (-(shl (-v) (p + k))) R) := by
  have hv2000 : v.natAbs < 4294967296 ^ 2000 := Nat.lt_of_lt_of_le hv (Nat.pow_le_pow_right (by omega) (by omega))
  have hs2000 : (shl (-v) (p + k)).natAbs < 4294967296 ^ 2000 := Nat.lt_of_lt_of_le hs (Nat.pow_le_pow_right (by omega) (by omega))
  have hnv : (-v).natAbs < 4294967296 ^ 990 := by rw [Int.natAbs_neg]; exact hv
  clear hv hs
  refine enter Tryz.func113 Tryz.ntmps113 rfl (by kernel_rfl) zCon rfl fun G => ?_
  all_goals ((try refine zR2 ?_) <;> (repeat' (with_reducible first | refine And.intro ?_ ?_ | intro _)))
  rename_i b2
  refine c_draw ([9], []) [.box b2 [ptr x, .int .i64 p] 111] [1, 2, 4, 5, 7, 0, 3, 6, 8, 9] (by kernel_rfl) (by kernel_rfl) ?_
  all_goals ((try refine zD2 ?_) <;> (repeat' (with_reducible first | refine And.intro ?_ ?_ | intro _)))
  rename_i z
  refine l_callIA rfl zEvs rfl (Neg_spec z x v false _ mx _ (.tail _ (.tail _ hx)) hv2000) zFsub fun mz => ?_
  all_goals ((try refine zD2 ?_) <;> (repeat' (with_reducible first | refine And.intro ?_ ?_ | intro _)))
  refine l_callA rfl zEvs rfl (floor_spec z (-v) p k mz _ zMem hnv hp hk) zFsub ?_
  rintro _ L' F' ⟨a, ma, rfl, rfl, rfl⟩
  generalize shl (-v) (p + k) = w at hs2000 ⊢
  all_goals ((try refine zD2 ?_) <;> (repeat' (with_reducible first | refine And.intro ?_ ?_ | intro _)))
  all_goals ((try refine zR2 ?_) <;> (repeat' (with_reducible first | refine And.intro ?_ ?_ | intro _)))
  refine l_callIA rfl zEvs rfl (Neg_spec a a w _ _ ma _ zMem hs2000) zFsub fun mb => ?_
  all_goals ((try refine zR2 ?_) <;> (repeat' (with_reducible first | refine And.intro ?_ ?_ | intro _)))
  exact e_resT rfl zRes (Lo := oInt a _ mb :: R) zTake (fsub_cons zMem fsub_nil) ⟨a, mb, rfl, rfl, rfl⟩
theorem shl_b {v k : Int} (hv : v.natAbs < 2 ^ 4800) (hk : k ≤ 6000) : (shl v k).natAbs < 2 ^ 10801 := by
  unfold shl
  split
  · rw [← pw_cast, natAbs_pw]
    exact pw_lt hv _ (by omega)
  · have h1 : (v / 2 ^ (-k).toNat).natAbs ≤ v.natAbs := by
      rw [← pw_cast]
      have hp := pw_pos (-k).toNat
      generalize ((2 ^ (-k).toNat : Nat) : Int) = P at hp
      rcases Int.le_total 0 v with h | h
      · have h2 := Int.ediv_nonneg h (Int.le_of_lt hp)
        have h3 : v / P ≤ v := Int.ediv_le_self P h
        omega
      · have h2 : v / P ≤ 0 := by
          have := Int.ediv_le_ediv hp h
          rwa [Int.zero_ediv] at this
        have h3 : v ≤ v / P := by
          rw [Int.le_ediv_iff_mul_le hp]
          have : v * P ≤ v * 1 := Int.mul_le_mul_of_nonpos_left h (by omega)
          omega
        omega
    exact Nat.lt_of_le_of_lt h1 (Nat.lt_of_lt_of_le hv (Nat.pow_le_pow_right (by omega) (by omega)))
theorem b10801 {v : Int} (h : v.natAbs < 2 ^ 10801) (k : Nat) (hk : 340 ≤ k) : v.natAbs < 4294967296 ^ k := by
  rw [show (4294967296 : Nat) = 2 ^ 32 by decide, ← Nat.pow_mul]
  exact Nat.lt_of_lt_of_le h (Nat.pow_le_pow_right (by omega) (by omega))
theorem FlD_bad (sg e k : Int) (u : Value) (l : List Int) (h : ¬ dcode sg e l k = 0) : Spec Tryz.prog 34 [vDyadic sg u e, .int .i64 k] [] [fList 1 (rInt .i64) u l] (PRs ((0, 0), dcode sg e l k)) := by
  have hC := dyadicCode_spec sg e k u l
  generalize dcode sg e l k = c at h hC ⊢
  refine enter Tryz.func34 Tryz.ntmps34 rfl (by kernel_rfl) zCon rfl fun G => ?_
  refine c_isList (v := u) zMem fun hs1 => ?_
  all_goals (((try refine zR2 ?_) <;> (repeat' (with_reducible first | refine And.intro ?_ ?_ | intro _))) <;> (repeat' ((first | ((with_reducible apply l_callP); exact rfl; exact zEvs; exact rfl; (with_reducible apply hC); (case hF => exact zFsub); (try any_goals (refine propId ?_; omega)))) <;> ((try refine zR2 ?_) <;> (repeat' (with_reducible first | refine And.intro ?_ ?_ | intro _))))))
  all_goals (first | (exfalso; omega) | skip)
  refine ends_nilInts .i64 ?_
  exact e_resT rfl zRes .nil (fsub_cons (.head _) fsub_nil) ⟨.slice none 0 0, rfl, rfl, by simp [limbs_zero]⟩
theorem ClD_bad (sg e k : Int) (u : Value) (l : List Int) (h : ¬ dcode sg e l k = 0) : Spec Tryz.prog 36 [vDyadic sg u e, .int .i64 k] [] [fList 1 (rInt .i64) u l] (PRs ((0, 0), dcode sg e l k)) := by
  have hC := dyadicCode_spec sg e k u l
  generalize dcode sg e l k = c at h hC ⊢
  refine enter Tryz.func36 Tryz.ntmps36 rfl (by kernel_rfl) zCon rfl fun G => ?_
  refine c_isList (v := u) zMem fun hs1 => ?_
  all_goals (((try refine zR2 ?_) <;> (repeat' (with_reducible first | refine And.intro ?_ ?_ | intro _))) <;> (repeat' ((first | ((with_reducible apply l_callP); exact rfl; exact zEvs; exact rfl; (with_reducible apply hC); (case hF => exact zFsub); (try any_goals (refine propId ?_; omega)))) <;> ((try refine zR2 ?_) <;> (repeat' (with_reducible first | refine And.intro ?_ ?_ | intro _))))))
  all_goals (first | (exfalso; omega) | skip)
  refine ends_nilInts .i64 ?_
  exact e_resT rfl zRes .nil (fsub_cons (.head _) fsub_nil) ⟨.slice none 0 0, rfl, rfl, by simp [limbs_zero]⟩
theorem dcode_zero {v e k : Int} (hD : IsD (sgn v) e (limbs v.natAbs)) (hk : -1000 ≤ k ∧ k ≤ 1000) : dcode (sgn v) e (limbs v.natAbs) k = 0 := by unfold dcode; rw [if_pos hD, if_pos hk]
theorem FlD_spec (v e k : Int) (u : Value) (hD : IsD (sgn v) e (limbs v.natAbs)) (hk : -1000 ≤ k ∧ k ≤ 1000) : Spec Tryz.prog 34 [vDyadic (sgn v) u e, .int .i64 k] [] [fList 1 (rInt .i64) u (limbs v.natAbs), fTz] (PRs (dr (shl v (e + k)) (-k))) := by
  have hC := dyadicCode_spec (sgn v) e k u (limbs v.natAbs)
  rw [dcode_zero hD hk] at hC
  obtain ⟨_, hb, he⟩ := isD_nrm hD
  have h990 := b4800 hb 990 (by omega)
  have hS800 := b10801 (shl_b hb (show e + k ≤ 6000 by omega)) 800 (by omega)
  clear hb
  refine enter Tryz.func34 Tryz.ntmps34 rfl (by kernel_rfl) zCon rfl fun G => ?_
  refine c_isList (v := u) zMem fun hs1 => ?_
  all_goals (((try refine zR2 ?_) <;> (repeat' (with_reducible first | refine And.intro ?_ ?_ | intro _))) <;> (repeat' ((first | ((with_reducible apply l_callP); exact rfl; exact zEvs; exact rfl; (with_reducible apply hC); (case hF => exact zFsub); (try any_goals (refine propId ?_; omega)))) <;> ((try refine zR2 ?_) <;> (repeat' (with_reducible first | refine And.intro ?_ ?_ | intro _))))))
  all_goals (first | (exfalso; omega) | skip)
  refine l_call rfl zEvs rfl (dvalueR_spec u v e hD) zTake zFsub ?_
  rintro _ L' F' ⟨a, ma, rfl, rfl, rfl⟩
  all_goals ((try refine zR2 ?_) <;> (repeat' (with_reducible first | refine And.intro ?_ ?_ | intro _)))
  refine l_callA rfl zEvs rfl (floor_spec a v e k ma _ zMem h990 (by omega) (by omega)) zFsub ?_
  rintro _ L' F' ⟨z, mz, rfl, rfl, rfl⟩
  generalize shl v (e + k) = S at hS800 ⊢
  all_goals ((try refine zR2 ?_) <;> (repeat' (with_reducible first | refine And.intro ?_ ?_ | intro _)))
  refine l_callA rfl zEvs rfl (dyadic_spec z S (0 - k) mz _ zMem hS800 (by omega)) zFsub ?_
  rw [show (0 - k) = -k by omega]
  intro rv L' F' hp
  rcases hp.case with ⟨hd, u', rfl, rfl, rfl⟩ | ⟨hd, rfl, rfl, rfl⟩
  · rw [hd]
    refine l_freezeInts (ik := .i64) (l := limbs (nv S).natAbs) .head rfl ?_
    refine l_isList (.head _) fun hsu => ?_
    all_goals ((try refine zR2 ?_) <;> (repeat' (with_reducible first | refine And.intro ?_ ?_ | intro _)))
    exact e_resT rfl zRes .nil (fsub_cons zMem fsub_nil) ⟨u', rfl, rfl, rfl⟩
  · rw [hd]
    refine l_nilInts .i64 ?_
    all_goals ((try refine zR2 ?_) <;> (repeat' (with_reducible first | refine And.intro ?_ ?_ | intro _)))
    exact e_resT rfl zRes .nil (fsub_cons zMem fsub_nil) ⟨.slice none 0 0, rfl, rfl, by simp [limbs_zero]⟩
theorem ClD_spec (v e k : Int) (u : Value) (hD : IsD (sgn v) e (limbs v.natAbs)) (hk : -1000 ≤ k ∧ k ≤ 1000) : Spec Tryz.prog 36 [vDyadic (sgn v) u e, .int .i64 k] [] [fList 1 (rInt .i64) u (limbs v.natAbs), fTz] (PRs (dr (-(shl (-v) (e + k))) (-k))) := by
  have hC := dyadicCode_spec (sgn v) e k u (limbs v.natAbs)
  rw [dcode_zero hD hk] at hC
  obtain ⟨_, hb, he⟩ := isD_nrm hD
  have h990 := b4800 hb 990 (by omega)
  have hsb := shl_b (v := -v) (by rw [Int.natAbs_neg]; exact hb) (show e + k ≤ 6000 by omega)
  have hs990 := b10801 hsb 990 (by omega)
  have hS800 : (-(shl (-v) (e + k))).natAbs < 4294967296 ^ 800 := by rw [Int.natAbs_neg]; exact b10801 hsb 800 (by omega)
  clear hb hsb
  refine enter Tryz.func36 Tryz.ntmps36 rfl (by kernel_rfl) zCon rfl fun G => ?_
  refine c_isList (v := u) zMem fun hs1 => ?_
  all_goals (((try refine zR2 ?_) <;> (repeat' (with_reducible first | refine And.intro ?_ ?_ | intro _))) <;> (repeat' ((first | ((with_reducible apply l_callP); exact rfl; exact zEvs; exact rfl; (with_reducible apply hC); (case hF => exact zFsub); (try any_goals (refine propId ?_; omega)))) <;> ((try refine zR2 ?_) <;> (repeat' (with_reducible first | refine And.intro ?_ ?_ | intro _))))))
  all_goals (first | (exfalso; omega) | skip)
  refine l_call rfl zEvs rfl (dvalueR_spec u v e hD) zTake zFsub ?_
  rintro _ L' F' ⟨a, ma, rfl, rfl, rfl⟩
  all_goals ((try refine zR2 ?_) <;> (repeat' (with_reducible first | refine And.intro ?_ ?_ | intro _)))
  refine l_callA rfl zEvs rfl (ceil_spec a v e k ma _ zMem h990 (by omega) (by omega) hs990) zFsub ?_
  rintro _ L' F' ⟨z, mz, rfl, rfl, rfl⟩
  generalize -(shl (-v) (e + k)) = S at hS800 ⊢
  all_goals ((try refine zR2 ?_) <;> (repeat' (with_reducible first | refine And.intro ?_ ?_ | intro _)))
  refine l_callA rfl zEvs rfl (dyadic_spec z S (0 - k) mz _ zMem hS800 (by omega)) zFsub ?_
  rw [show (0 - k) = -k by omega]
  intro rv L' F' hp
  rcases hp.case with ⟨hd, u', rfl, rfl, rfl⟩ | ⟨hd, rfl, rfl, rfl⟩
  · rw [hd]
    refine l_freezeInts (ik := .i64) (l := limbs (nv S).natAbs) .head rfl ?_
    refine l_isList (.head _) fun hsu => ?_
    all_goals ((try refine zR2 ?_) <;> (repeat' (with_reducible first | refine And.intro ?_ ?_ | intro _)))
    exact e_resT rfl zRes .nil (fsub_cons zMem fsub_nil) ⟨u', rfl, rfl, rfl⟩
  · rw [hd]
    refine l_nilInts .i64 ?_
    all_goals ((try refine zR2 ?_) <;> (repeat' (with_reducible first | refine And.intro ?_ ?_ | intro _)))
    exact e_resT rfl zRes .nil (fsub_cons zMem fsub_nil) ⟨.slice none 0 0, rfl, rfl, by simp [limbs_zero]⟩
theorem TextD_spec (v e : Int) (u : Value) (hD : IsD (sgn v) e (limbs v.natAbs)) : Spec Tryz.prog 42 [vDyadic (sgn v) u e] [] [fList 1 (rInt .i64) u (limbs v.natAbs), fTab] (Gives (.tuple #[.string ⟨(itoa v ++ 112 :: itoa e).toArray⟩, .int .i64 0])) := by
  have hI := IsDyadic_spec (sgn v) e u (limbs v.natAbs)
  rw [decide_eq_true hD] at hI
  have hT := dtext_spec (sgn v) e u (limbs v.natAbs) hD
  rw [wText_itoa] at hT
  refine enter Tryz.func42 Tryz.ntmps42 rfl (by kernel_rfl) zCon rfl fun G => ?_
  refine c_isList (v := u) zMem fun hs1 => ?_
  all_goals (((try refine zR2 ?_) <;> (repeat' (with_reducible first | refine And.intro ?_ ?_ | intro _))) <;> (repeat' ((first | ((with_reducible apply l_callP); exact rfl; exact zEvs; exact rfl; (with_reducible apply hI); (case hF => exact zFsub); (try any_goals (refine propId ?_; omega))) | ((with_reducible apply l_callP); exact rfl; exact zEvs; exact rfl; (with_reducible apply hT); (case hF => exact zFsub); (try any_goals (refine propId ?_; omega)))) <;> ((try refine zR2 ?_) <;> (repeat' (with_reducible first | refine And.intro ?_ ?_ | intro _))))))
  all_goals (first | (exfalso; omega) | skip)
  (refine e_gives rfl zRes ?_; first | rfl | (simp [retVal, *]; done) | (simp_all [retVal]; done) | (simp only [retVal]))
theorem TextD_bad (sg e : Int) (u : Value) (l : List Int) (hD : ¬ IsD sg e l) : Spec Tryz.prog 42 [vDyadic sg u e] [] [fList 1 (rInt .i64) u l] (Gives (.tuple #[.string ⟨#[]⟩, .int .i64 1])) := by
  have hI := IsDyadic_spec sg e u l
  rw [decide_eq_false hD] at hI
  refine enter Tryz.func42 Tryz.ntmps42 rfl (by kernel_rfl) zCon rfl fun G => ?_
  refine c_isList (v := u) zMem fun hs1 => ?_
  all_goals (((try refine zR2 ?_) <;> (repeat' (with_reducible first | refine And.intro ?_ ?_ | intro _))) <;> (repeat' ((first | ((with_reducible apply l_callP); exact rfl; exact zEvs; exact rfl; (with_reducible apply hI); (case hF => exact zFsub); (try any_goals (refine propId ?_; omega)))) <;> ((try refine zR2 ?_) <;> (repeat' (with_reducible first | refine And.intro ?_ ?_ | intro _))))))
  all_goals (first | (exfalso; omega) | skip)
  (refine e_gives rfl zRes ?_; first | rfl | (simp [retVal, *]; done) | (simp_all [retVal]; done) | (simp only [retVal]))
end Go.Proofs.YtbllgmcpebifhaaGreatDoor.K
end

section
/- The program's functions of exact numbers. -/
namespace Go.Proofs.YtbllgmcpebifhaaGreatDoor.K
open Go Go.RowKit Go.Lib
set_option linter.all false
set_option maxRecDepth 4000
set_option maxHeartbeats 1000000
set_option exponentiation.threshold 40000

theorem sumV_add (v1 e1 v2 e2 : Int) : v1 * 2 ^ (e1 - min e1 e2).toNat + v2 * 2 ^ (e2 - min e1 e2).toNat = sumV v1 e1 v2 e2 := by
  unfold sumV
  rw [pw_cast, pw_cast]
theorem sumV_sub (v1 e1 v2 e2 : Int) : v1 * 2 ^ (e1 - min e1 e2).toNat - v2 * 2 ^ (e2 - min e1 e2).toNat = sumV v1 e1 (-v2) e2 := by
  unfold sumV
  rw [pw_cast, pw_cast, Int.neg_mul]
  omega
theorem cmp_sgn (v1 e1 v2 e2 : Int) : (if v1 * 2 ^ (e1 - min e1 e2).toNat < v2 * 2 ^ (e2 - min e1 e2).toNat then (-1 : Int) else if v1 * 2 ^ (e1 - min e1 e2).toNat = v2 * 2 ^ (e2 - min e1 e2).toNat then 0 else 1) = sgn (sumV v1 e1 (-v2) e2) := by
  rw [← sumV_sub]
  generalize v1 * 2 ^ (e1 - min e1 e2).toNat = A
  generalize v2 * 2 ^ (e2 - min e1 e2).toNat = B
  unfold sgn
  by_cases h1 : A < B
  · rw [if_pos h1, if_neg (by omega), if_pos (by omega)]
  · rw [if_neg h1]
    by_cases h2 : A = B
    · rw [if_pos h2, if_pos (by omega)]
    · rw [if_neg h2, if_neg (by omega), if_neg (by omega)]
section
variable (s1 s2 e1 e2 : Int) (u1 u2 : Value) (l1 l2 : List Int)
theorem AddD_bad (h : ¬ (IsD s1 e1 l1 ∧ IsD s2 e2 l2)) : Spec Tryz.prog 24 [vDyadic s1 u1 e1, vDyadic s2 u2 e2] [] [fList 1 (rInt .i64) u1 l1, fList 1 (rInt .i64) u2 l2] (PRs ((0, 0), 1)) := by
  refine enter Tryz.func24 Tryz.ntmps24 rfl (by kernel_rfl) zCon rfl fun G => ?_
  refine c_isList (v := u1) zMem fun hs1 => ?_
  refine c_isList (v := u2) zMem fun hs2 => ?_
  all_goals ((try refine zR2 ?_) <;> (repeat' (with_reducible first | refine And.intro ?_ ?_ | intro _)))
  refine l_call rfl zEvs rfl (pairOf_bad _ s1 s2 e1 e2 u1 u2 l1 l2 h) zTake zFsub ?_
  rintro _ L' F' ⟨u, rfl, rfl, rfl⟩
  refine l_isList (.head _) fun hsu => ?_
  all_goals ((try refine zR2 ?_) <;> (repeat' (with_reducible first | refine And.intro ?_ ?_ | intro _)))
  exact e_resT rfl zRes .nil (fsub_cons zMem fsub_nil) ⟨u, rfl, rfl, rfl⟩
theorem CmpD_bad (h : ¬ (IsD s1 e1 l1 ∧ IsD s2 e2 l2)) : Spec Tryz.prog 26 [vDyadic s1 u1 e1, vDyadic s2 u2 e2] [] [fList 1 (rInt .i64) u1 l1, fList 1 (rInt .i64) u2 l2] (Gives (.tuple #[.int .i64 0, .int .i64 1])) := by
  refine enter Tryz.func26 Tryz.ntmps26 rfl (by kernel_rfl) zCon rfl fun G => ?_
  refine c_isList (v := u1) zMem fun hs1 => ?_
  refine c_isList (v := u2) zMem fun hs2 => ?_
  have hI1 := IsDyadic_spec s1 e1 u1 l1
  have hI2 := IsDyadic_spec s2 e2 u2 l2
  all_goals (((try refine zR2 ?_) <;> (repeat' (with_reducible first | refine And.intro ?_ ?_ | intro _))) <;> (repeat' ((first | ((with_reducible apply l_callP); exact rfl; exact zEvs; exact rfl; (with_reducible apply hI1); (case hF => exact zFsub); (try any_goals (refine propId ?_; omega))) | ((with_reducible apply l_callP); exact rfl; exact zEvs; exact rfl; (with_reducible apply hI2); (case hF => exact zFsub); (try any_goals (refine propId ?_; omega)))) <;> ((try refine zR2 ?_) <;> (repeat' (with_reducible first | refine And.intro ?_ ?_ | intro _))))))
  all_goals first | (exfalso; simp_all; done) | (refine e_gives rfl zRes ?_; first | rfl | (simp [retVal, *]; done) | (simp_all [retVal]; done) | (simp only [retVal]))
end
section
variable (v1 e1 v2 e2 : Int) (u1 u2 : Value) (hD1 : IsD (sgn v1) e1 (limbs v1.natAbs)) (hD2 : IsD (sgn v2) e2 (limbs v2.natAbs))
include hD1 hD2
theorem AddD_spec : Spec Tryz.prog 24 [vDyadic (sgn v1) u1 e1, vDyadic (sgn v2) u2 e2] [] [fList 1 (rInt .i64) u1 (limbs v1.natAbs), fList 1 (rInt .i64) u2 (limbs v2.natAbs), fTz] (PRs (dr (sumV v1 e1 v2 e2) (min e1 e2))) := by
  obtain ⟨_, hb1, he1⟩ := isD_nrm hD1
  obtain ⟨_, hb2, he2⟩ := isD_nrm hD2
  have hP := pairOf_spec 93 (sumV v1 e1 v2 e2) v1 e1 v2 e2 u1 u2 hD1 hD2 (sumV_b hb1 hb2 he1 he2) fun x y mx my R hx hy => by
    have := plus_spec x y v1 v2 e1 e2 mx my R hx hy (b4800 hb1 990 (by omega)) (b4800 hb2 990 (by omega)) (by omega) (by omega) (b14800 hb1 _ (by omega) 900 (by omega)) (b14800 hb2 _ (by omega) 900 (by omega))
    rwa [sumV_add] at this
  clear hb1 hb2
  refine enter Tryz.func24 Tryz.ntmps24 rfl (by kernel_rfl) zCon rfl fun G => ?_
  refine c_isList (v := u1) zMem fun hs1 => ?_
  refine c_isList (v := u2) zMem fun hs2 => ?_
  all_goals ((try refine zR2 ?_) <;> (repeat' (with_reducible first | refine And.intro ?_ ?_ | intro _)))
  refine l_call rfl zEvs rfl hP zTake zFsub ?_
  rintro _ L' F' ⟨u, rfl, rfl, rfl⟩
  refine l_isList (.head _) fun hsu => ?_
  generalize dr (sumV v1 e1 v2 e2) (min e1 e2) = d
  all_goals ((try refine zR2 ?_) <;> (repeat' (with_reducible first | refine And.intro ?_ ?_ | intro _)))
  exact e_resT rfl zRes .nil (fsub_cons zMem fsub_nil) ⟨u, rfl, rfl, rfl⟩
theorem SubD_spec : Spec Tryz.prog 31 [vDyadic (sgn v1) u1 e1, vDyadic (sgn v2) u2 e2] [] [fList 1 (rInt .i64) u1 (limbs v1.natAbs), fList 1 (rInt .i64) u2 (limbs v2.natAbs), fTz] (PRs (dr (sumV v1 e1 (-v2) e2) (min e1 e2))) := by
  obtain ⟨_, hb1, he1⟩ := isD_nrm hD1
  obtain ⟨_, hb2, he2⟩ := isD_nrm hD2
  have hP := pairOf_spec 104 (sumV v1 e1 (-v2) e2) v1 e1 v2 e2 u1 u2 hD1 hD2 (sumV_b hb1 (by rw [Int.natAbs_neg]; exact hb2) he1 he2) fun x y mx my R hx hy => by
    have := minus_spec x y v1 v2 e1 e2 mx my R hx hy (b4800 hb1 990 (by omega)) (b4800 hb2 990 (by omega)) (by omega) (by omega) (b14800 hb1 _ (by omega) 900 (by omega)) (b14800 hb2 _ (by omega) 900 (by omega))
    rwa [sumV_sub] at this
  clear hb1 hb2
  refine enter Tryz.func31 Tryz.ntmps31 rfl (by kernel_rfl) zCon rfl fun G => ?_
  refine c_isList (v := u1) zMem fun hs1 => ?_
  refine c_isList (v := u2) zMem fun hs2 => ?_
  all_goals ((try refine zR2 ?_) <;> (repeat' (with_reducible first | refine And.intro ?_ ?_ | intro _)))
  refine l_call rfl zEvs rfl hP zTake zFsub ?_
  rintro _ L' F' ⟨u, rfl, rfl, rfl⟩
  refine l_isList (.head _) fun hsu => ?_
  generalize dr (sumV v1 e1 (-v2) e2) (min e1 e2) = d
  all_goals ((try refine zR2 ?_) <;> (repeat' (with_reducible first | refine And.intro ?_ ?_ | intro _)))
  exact e_resT rfl zRes .nil (fsub_cons zMem fsub_nil) ⟨u, rfl, rfl, rfl⟩
theorem CmpD_spec : Spec Tryz.prog 26 [vDyadic (sgn v1) u1 e1, vDyadic (sgn v2) u2 e2] [] [fList 1 (rInt .i64) u1 (limbs v1.natAbs), fList 1 (rInt .i64) u2 (limbs v2.natAbs), fTz] (Gives (.tuple #[.int .i64 (sgn (sumV v1 e1 (-v2) e2)), .int .i64 0])) := by
  obtain ⟨_, hb1, he1⟩ := isD_nrm hD1
  obtain ⟨_, hb2, he2⟩ := isD_nrm hD2
  have h990a := b4800 hb1 990 (by omega)
  have h990b := b4800 hb2 990 (by omega)
  clear hb1 hb2
  have hI1 := IsDyadic_spec (sgn v1) e1 u1 (limbs v1.natAbs)
  have hI2 := IsDyadic_spec (sgn v2) e2 u2 (limbs v2.natAbs)
  rw [decide_eq_true hD1] at hI1
  rw [decide_eq_true hD2] at hI2
  refine enter Tryz.func26 Tryz.ntmps26 rfl (by kernel_rfl) zCon rfl fun G => ?_
  refine c_isList (v := u1) zMem fun hs1 => ?_
  refine c_isList (v := u2) zMem fun hs2 => ?_
  all_goals (((try refine zR2 ?_) <;> (repeat' (with_reducible first | refine And.intro ?_ ?_ | intro _))) <;> (repeat' ((first | ((with_reducible apply l_callP); exact rfl; exact zEvs; exact rfl; (with_reducible apply hI1); (case hF => exact zFsub); (try any_goals (refine propId ?_; omega))) | ((with_reducible apply l_callP); exact rfl; exact zEvs; exact rfl; (with_reducible apply hI2); (case hF => exact zFsub); (try any_goals (refine propId ?_; omega)))) <;> ((try refine zR2 ?_) <;> (repeat' (with_reducible first | refine And.intro ?_ ?_ | intro _))))))
  all_goals (first | (exfalso; omega) | skip)
  rename_i b2 b3
  refine c_draw ([5, 6], []) [.box b2 [.int .i64 (sgn v1), u1, .int .i64 e1] 48, .box b3 [.int .i64 (sgn v2), u2, .int .i64 e2] 48] [0, 2, 1, 3, 4, 5, 6] (by kernel_rfl) (by kernel_rfl) ?_
  all_goals ((try refine zD2 ?_) <;> (repeat' (with_reducible first | refine And.intro ?_ ?_ | intro _)))
  refine l_call rfl zEvs rfl (dvalueR_spec u1 v1 e1 hD1) zTake zFsub ?_
  rintro _ L' F' ⟨a, ma, rfl, rfl, rfl⟩
  all_goals ((try refine zD2 ?_) <;> (repeat' (with_reducible first | refine And.intro ?_ ?_ | intro _)))
  refine l_call rfl zEvs rfl (dvalueR_spec u2 v2 e2 hD2) zTake zFsub ?_
  rintro _ L' F' ⟨b, mb, rfl, rfl, rfl⟩
  all_goals ((try refine zD2 ?_) <;> (repeat' (with_reducible first | refine And.intro ?_ ?_ | intro _)))
  refine l_callVA rfl zEvs rfl (compare_spec a b v1 v2 e1 e2 ma mb _ zMem zMem h990a h990b (by omega) (by omega)) zFsub ?_
  rw [cmp_sgn]
  generalize sgn (sumV v1 e1 (-v2) e2) = c
  all_goals ((try refine zD2 ?_) <;> (repeat' (with_reducible first | refine And.intro ?_ ?_ | intro _)))
  (refine e_gives rfl zRes ?_; first | rfl | (simp [retVal, *]; done) | (simp_all [retVal]; done) | (simp only [retVal]))
end
end Go.Proofs.YtbllgmcpebifhaaGreatDoor.K
end
