/- The law of ParsePolynomial: what it compares with, its marks, and the walk. -/
import Derived.Test.YtbllgmcpebifhaaGreatDoorZNh

section
namespace Go.Proofs.YtbllgmcpebifhaaGreatDoor.K
open Go Go.RowKit Go.Lib
set_option linter.all false
set_option maxRecDepth 4000
set_option maxHeartbeats 1000000
set_option exponentiation.threshold 4000

theorem quo_zero : floatBits .quo .f64 4607182418800017408 0 = some 9218868437227405312 := by decide +kernel
theorem l_gtrC {G : Ctx} {n : Nat} {P : Program} {ops : Array Oper} {Q : Post} {rest : List Oper} {m : Regs} {L : List Own} {F : List Fact} {d : Nat} {ty : TypeId} {pos : String} {af : Array Edge} {g : Option (Nat × Bool)} {t yt : TypeId} {x y : Operand}
    (hw : wantG ops m g = some true) (hx : ev m x = some (.float .f64 9218868437227405312)) (hy : ev m y = some (.float .f64 0)) (hd : Nat.blt d n = true)
    (h : RunL G n P ops Q rest ((d, .bool true) :: m) L F) : RunL G n P ops Q (⟨some d, .binOp .gtr t x y yt, ty, pos, af, g⟩ :: rest) m L F :=
  l_bin hw hx hy hd (fun w => guard_flt w) (fun w => by
    have e : FloatKind.format .f64 = Ieee.double := rfl
    have h : Ieee.double.order 9218868437227405312 0 = some .gt := by decide +kernel
    simp [binOp, Op.floatCmp, e, h]) h
theorem sameFloat_spec (x : Nat) (A : Int) (hx : fv x = some A) (h0 : A = 0 → x = 0) : Spec Tryz.prog 200 [.float .f64 x, .float .f64 x] [] [] (Gives (.bool true)) := by
  refine enter Tryz.func200 Tryz.ntmps200 rfl (by kernel_rfl) zCon rfl fun G => ?_
  by_cases hA : A = 0
  · obtain rfl := h0 hA
    subst hA
    all_goals ((try refine zR2 ?_) <;> (repeat' (with_reducible first | refine And.intro ?_ ?_ | intro _)))
    refine l_flt rfl rfl rfl rfl quo_zero ?_
    refine l_gtrC rfl rfl rfl rfl ?_
    all_goals ((try refine zR2 ?_) <;> (repeat' (with_reducible first | refine And.intro ?_ ?_ | intro _)))
    refine l_flt rfl rfl rfl rfl quo_zero ?_
    refine l_gtrC rfl rfl rfl rfl ?_
    all_goals ((try refine zR2 ?_) <;> (repeat' (with_reducible first | refine And.intro ?_ ?_ | intro _)))
    (refine e_gives rfl zRes ?_; first | rfl | (simp [retVal, *]; done) | (simp_all [retVal]; done) | (simp only [retVal]))
  · all_goals ((try refine zR2 ?_) <;> (repeat' (with_reducible first | refine And.intro ?_ ?_ | intro _)))
    all_goals first | (exfalso; first | exact absurd rfl (by assumption : A ≠ A) | exact hA (by assumption); done) | skip
    (refine e_gives rfl zRes ?_; first | rfl | (simp [retVal, *]; done) | (simp_all [retVal]; done) | (simp only [retVal]))
/-- Numbers that are finite and have one zero. -/
def FinX (zs : List (Nat × Nat)) : Prop := ∀ z ∈ zs, ∃ a, FinZ z a ∧ (a.1 = 0 → z.1 = 0) ∧ (a.2 = 0 → z.2 = 0)
theorem sameComplex_spec (z : Nat × Nat) (a : Int × Int) (h : FinZ z a) (h1 : a.1 = 0 → z.1 = 0) (h2 : a.2 = 0 → z.2 = 0) : Spec Tryz.prog 129 [.complex .f64 z.1 z.2, .complex .f64 z.1 z.2] [] [] (Gives (.bool true)) := by
  refine enter Tryz.func129 Tryz.ntmps129 rfl (by kernel_rfl) zCon rfl fun G => ?_
  have e1 := sameFloat_spec z.1 a.1 h.1 h1
  have e2 := sameFloat_spec z.2 a.2 h.2 h2
  all_goals (((try refine zR2 ?_) <;> (repeat' (with_reducible first | refine And.intro ?_ ?_ | intro _))) <;> (repeat' ((first | ((with_reducible apply l_callP); exact rfl; exact zEvs; exact rfl; (with_reducible apply e1); (case hF => exact zFsub); (try any_goals (refine propId ?_; omega))) | ((with_reducible apply l_callP); exact rfl; exact zEvs; exact rfl; (with_reducible apply e2); (case hF => exact zFsub); (try any_goals (refine propId ?_; omega)))) <;> ((try refine zR2 ?_) <;> (repeat' (with_reducible first | refine And.intro ?_ ?_ | intro _))))))
  (refine e_gives rfl zRes ?_; first | rfl | (simp [retVal, *]; done) | (simp_all [retVal]; done) | (simp only [retVal]))
theorem eqCx_spec (va vb : Value) (zs : List (Nat × Nat)) (hf : FinX zs) (hz : zs.length ≤ 100) : Spec Tryz.prog 46 [va, vb] [] [fList 1 rCx va zs, fList 1 rCx vb zs] (Gives (.bool true)) := by
  refine enter Tryz.func46 Tryz.ntmps46 rfl (by kernel_rfl) zCon rfl fun G => ?_
  refine c_isList (v := va) zMem fun hs1 => ?_
  refine c_isList (v := vb) zMem fun hs2 => ?_
  all_goals ((try refine zR2 ?_) <;> (repeat' (with_reducible first | refine And.intro ?_ ?_ | intro _)))
  · exact absurd rfl (by assumption)
  refine c_while (ι := { i : Nat // i ≤ zs.length }) (κ := Unit) (fun i => [(5, .int .i64 (i.1 : Int)), (0, va), (1, vb)]) (fun _ => []) (fun _ => [fList 1 rCx va zs, fList 1 rCx vb zs]) (fun i => zs.length - i.1)
    (fun _ => []) (fun _ => []) (fun _ => []) ⟨0, Nat.zero_le _⟩ (fun _ _ s => s.start zSub zRfl zFsub) ?_ ?_
  · rintro ⟨i, hi⟩
    dsimp only at hi ⊢
    by_cases hi' : i < zs.length
    · obtain ⟨w, hw⟩ : ∃ w, zs[i]? = some w := ⟨_, List.getElem?_eq_getElem hi'⟩
      obtain ⟨b, hb, hb1, hb2⟩ := hf w (List.mem_of_getElem? hw)
      have hS := sameComplex_spec w b hb hb1 hb2
      all_goals ((try refine zR2 ?_) <;> (repeat' (with_reducible first | refine And.intro ?_ ?_ | intro _)))
      all_goals (first | (exfalso; omega) | skip)
      refine c_draw ([9], []) [] [0, 1, 2, 3, 4, 5, 6, 7, 8, 9] (by kernel_rfl) (by kernel_rfl) ?_
      all_goals (((try refine zD2 ?_) <;> (repeat' (with_reducible first | refine And.intro ?_ ?_ | intro _))) <;> (repeat' ((first | ((with_reducible apply l_callP); exact rfl; exact zEvs; exact rfl; (with_reducible apply hS); (case hF => exact zFsub); (try any_goals (refine propId ?_; omega)))) <;> ((try refine zD2 ?_) <;> (repeat' (with_reducible first | refine And.intro ?_ ?_ | intro _))))))
      exact e_again ⟨i + 1, hi'⟩ (by dsimp only; omega) zSub rfl zFsub
    · all_goals ((try refine zR2 ?_) <;> (repeat' (with_reducible first | refine And.intro ?_ ?_ | intro _)))
      all_goals (first | (exfalso; omega) | skip)
      exact e_out () zSub rfl zFsub
  · intro _
    all_goals ((try refine zR2 ?_) <;> (repeat' (with_reducible first | refine And.intro ?_ ?_ | intro _)))
    (refine e_gives rfl zRes ?_; first | rfl | (simp [retVal, *]; done) | (simp_all [retVal]; done) | (simp only [retVal]))

/-- The marks. -/
def mkz (i : Nat) : Nat × Nat := (floatOfInt .f64 (1 + (i : Int)), 4607182418800017408)
def mkx (n : Nat) : List (Nat × Nat) := (List.range n).map mkz
theorem mkx_len (n : Nat) : (mkx n).length = n := by simp [mkx]
theorem mkx_succ (n : Nat) : mkx (n + 1) = mkx n ++ [mkz n] := by simp [mkx, List.range_succ]
theorem mkx_get {n i : Nat} (h : i < n) : (mkx n)[i]? = some (floatOfInt .f64 (1 + (i : Int)), 4607182418800017408) := by
  simp [mkx, List.getElem?_range h, mkz]
theorem cx_set (P : List (Nat × Nat)) (c x : Nat × Nat) (r : List (Nat × Nat)) : (P ++ c :: r).set P.length x = P ++ x :: r := by
  rw [List.set_append_right _ _ (Nat.le_refl _), Nat.sub_self]; rfl
theorem markCx_spec (v : Value) (l : List (Nat × Nat)) (hl : l.length ≤ 1000000) : Spec Tryz.prog 47 [v, .int .i64 1] [.row v 24 1 l.length (l.map cx)] []
    (PVal (.int .i64 (1 + (l.length : Int))) [.row v 24 1 l.length ((mkx l.length).map cx)]) := by
  refine enter Tryz.func47 Tryz.ntmps47 rfl (by kernel_rfl) zCon rfl fun G => ?_
  refine c_isRow (.own (.head _)) fun hs _ => ?_
  all_goals ((try refine zR2 ?_) <;> (repeat' (with_reducible first | refine And.intro ?_ ?_ | intro _)))
  refine c_while (ι := { i : Nat // i ≤ l.length }) (κ := Unit)
    (fun i => [(5, .int .i64 (i.1 : Int)), (1, .int .i64 (1 + (i.1 : Int))), (0, v)]) (fun i => [.row v 24 1 l.length ((mkx i.1 ++ l.drop i.1).map cx)]) (fun _ => []) (fun i => l.length - i.1)
    (fun _ => [(1, .int .i64 (1 + (l.length : Int))), (0, v)]) (fun _ => [.row v 24 1 l.length ((mkx l.length).map cx)]) (fun _ => []) ⟨0, Nat.zero_le _⟩ (fun a w s => s.start zSub (by simp [mkx]) zFsub) ?_ ?_
  · rintro ⟨i, hi⟩
    dsimp only
    by_cases hil : i < l.length
    · have hdrop : l.drop i = l[i] :: l.drop (i + 1) := List.drop_eq_getElem_cons hil
      have hml := mkx_len i
      rw [hdrop]
      clear hdrop
      generalize l[i] = y
      have hlenA : (mkx i ++ y :: l.drop (i + 1)).length = l.length := by simp [hml]; omega
      have hset := cx_set (mkx i) y (mkz i) (l.drop (i + 1))
      rw [hml] at hset
      all_goals ((try refine zR2 ?_) <;> (repeat' (with_reducible first | refine And.intro ?_ ?_ | intro _)))
      all_goals (first | (exfalso; omega) | skip)
      refine l_storeMap (f := cx) (b := mkz i) rfl rfl .head rfl .complex rfl (by rw [hlenA]; exact hil) ?_
      rw [hset]
      all_goals ((try refine zR2 ?_) <;> (repeat' (with_reducible first | refine And.intro ?_ ?_ | intro _)))
      refine e_again ⟨i + 1, hil⟩ (by dsimp only; omega) zSub ?_ (fun _ h => h)
      dsimp only
      rw [mkx_succ]
      simp
    · all_goals ((try refine zR2 ?_) <;> (repeat' (with_reducible first | refine And.intro ?_ ?_ | intro _)))
      all_goals (first | (exfalso; omega) | skip)
      have : i = l.length := by omega
      subst this
      exact e_out () zSub (by simp) (fun _ h => h)
  · intro _
    all_goals ((try refine zR2 ?_) <;> (repeat' (with_reducible first | refine And.intro ?_ ?_ | intro _)))
    exact e_resT rfl zRes (.cons .head .nil) fsub_nil ⟨rfl, rfl, rfl⟩
theorem heldCx_spec (v : Value) (n : Nat) (hn : n ≤ 1000000) : Spec Tryz.prog 48 [v, .int .i64 1] [] [fList 1 rCx v (mkx n)]
    (Gives (.int .i64 (1 + (n : Int)))) := by
  refine enter Tryz.func48 Tryz.ntmps48 rfl (by kernel_rfl) zCon rfl fun G => ?_
  refine c_isList (v := v) zMem fun hs1 => ?_
  have hml := mkx_len n
  have hone := fv_one
  all_goals ((try refine zR2 ?_) <;> (repeat' (with_reducible first | refine And.intro ?_ ?_ | intro _)))
  refine c_while (ι := { i : Nat // i ≤ n }) (κ := Unit)
    (fun i => [(5, .int .i64 (i.1 : Int)), (1, .int .i64 (1 + (i.1 : Int))), (0, v)]) (fun _ => []) (fun _ => [fList 1 rCx v (mkx n)]) (fun i => n - i.1)
    (fun _ => [(1, .int .i64 (1 + (n : Int))), (0, v)]) (fun _ => []) (fun _ => []) ⟨0, Nat.zero_le _⟩ (fun _ _ s => s.start zSub zRfl zFsub) ?_ ?_
  · rintro ⟨i, hi⟩
    dsimp only at hi ⊢
    by_cases hil : i < n
    · have hget := mkx_get hil
      have hfv : fv (floatOfInt .f64 (1 + (i : Int))) = some (((1 + i : Nat) : Int) * (2 ^ 1074 : Nat)) := by
        have := ofInt_small (1 + i) (by omega)
        rwa [Int.natCast_add] at this
      generalize ((1 + i : Nat) : Int) * (2 ^ 1074 : Nat) = A at hfv
      generalize ((2 ^ 1074 : Nat) : Int) = B at hone
      all_goals ((try refine zR2 ?_) <;> (repeat' (with_reducible first | refine And.intro ?_ ?_ | intro _)))
      all_goals (first | (exfalso; omega) | skip)
      exact e_again ⟨i + 1, hil⟩ (by dsimp only; omega) zSub rfl (fun _ h => h)
    · all_goals ((try refine zR2 ?_) <;> (repeat' (with_reducible first | refine And.intro ?_ ?_ | intro _)))
      all_goals (first | (exfalso; omega) | skip)
      have : i = n := by omega
      subst this
      exact e_out () zSub rfl zFsub
  · intro _
    all_goals ((try refine zR2 ?_) <;> (repeat' (with_reducible first | refine And.intro ?_ ?_ | intro _)))
    (refine e_gives rfl zRes ?_; first | rfl | (simp [retVal, *]; done) | (simp_all [retVal]; done) | (simp only [retVal]))
end Go.Proofs.YtbllgmcpebifhaaGreatDoor.K
end

section
/- The law of ParsePolynomial: the walk. -/
namespace Go.Proofs.YtbllgmcpebifhaaGreatDoor.K
open Go Go.RowKit Go.Lib
set_option linter.all false
set_option maxRecDepth 4000
set_option maxHeartbeats 1000000

/-- What both readings answer. -/
def Rel2 (t : List UInt8) (zs : List (Nat × Nat)) (code : Int) : Prop := (code = 0 ∧ PPol t zs) ∨ (code = 6 ∧ zs = [] ∧ ∀ ys, ¬ PPol t ys)
theorem Rel2.uniq {t : List UInt8} {zs ys : List (Nat × Nat)} {c d : Int} (h : Rel2 t zs c) (h' : Rel2 t ys d) : zs = ys ∧ c = d := by
  rcases h with ⟨rfl, h1⟩ | ⟨rfl, rfl, h1⟩
  · rcases h' with ⟨rfl, h2⟩ | ⟨rfl, rfl, h2⟩
    · exact ⟨h1.uniq h2, rfl⟩
    · exact absurd h1 (h2 _)
  · rcases h' with ⟨rfl, h2⟩ | ⟨rfl, rfl, h2⟩
    · exact absurd h2 (h1 _)
    · exact ⟨rfl, rfl⟩
theorem Rel2.len {t : List UInt8} {zs : List (Nat × Nat)} {c : Int} (h : Rel2 t zs c) : zs.length ≤ 13 := by
  rcases h with ⟨rfl, h1⟩ | ⟨rfl, rfl, h1⟩
  · exact h1.2.2.2.1
  · simp
theorem Rel2.fin {t : List UInt8} {zs : List (Nat × Nat)} {c : Int} (h : Rel2 t zs c) : FinX zs := by
  rcases h with ⟨rfl, h1⟩ | ⟨rfl, rfl, h1⟩
  · intro z hz
    obtain ⟨k, hk, rfl⟩ := List.getElem_of_mem hz
    have hD := h1.2.1 k _ _ (List.getElem?_eq_getElem (by have := h1.1; omega)) (List.getElem?_eq_getElem hk)
    obtain ⟨x, y, _, ⟨_, v, e, a, i1, i2, i3, i4⟩, ⟨_, w, f, b, i5, i6, i7, i8⟩⟩ := hD
    exact ⟨(a, b), ⟨i2, i6⟩, fun ha => i4 (by dsimp only at ha; subst ha; exact i3.zero'), fun hb => i8 (by dsimp only at hb; subst hb; exact i7.zero')⟩
  · intro z hz; cases hz
theorem law_spec (t : List UInt8) : Spec Tryz.prog 5 [.string ⟨t.toArray⟩] [] [fMax, fSyn, fRng, fTab, fTz] (Gives (.bool true)) := by
  refine enter Tryz.func5 Tryz.ntmps5 rfl (by kernel_rfl) zCon rfl fun G => ?_
  all_goals ((try refine zR2 ?_) <;> (repeat' (with_reducible first | refine And.intro ?_ ?_ | intro _)))
  · (refine e_gives rfl zRes ?_; first | rfl | (simp [retVal, *]; done) | (simp_all [retVal]; done) | (simp only [retVal]))
  have hl : t.length ≤ 2000000 := by omega
  refine l_call rfl zEvs rfl (specPoly_spec t hl) zTake zFsub ?_
  rintro _ L' F' ⟨u0, zs, code, rfl, rfl, rfl, hrel⟩
  have hrel : Rel2 t zs code := hrel
  refine l_isList (.head _) fun hsu0 => ?_
  have hlen := hrel.len
  have hfin := hrel.fin
  all_goals ((try refine zR2 ?_) <;> (repeat' (with_reducible first | refine And.intro ?_ ?_ | intro _)))
  refine l_call rfl zEvs rfl (implPoly_spec t hl) zTake zFsub ?_
  rintro _ L' F' ⟨u1, zs', code', rfl, rfl, rfl, hrel'⟩
  obtain ⟨rfl, rfl⟩ := hrel.uniq hrel'
  refine l_isRow (.own (.head _)) fun hsu1 _ => ?_
  have heq := eqCx_spec u1 u0 zs hfin (by omega)
  all_goals ((try refine zR2 ?_) <;> (repeat' (with_reducible first | refine And.intro ?_ ?_ | intro _)))
  refine l_callH rfl zEvs rfl heq (lent2 (loanCx (.head _)) zMem) ?_
  all_goals ((try refine zR2 ?_) <;> (repeat' (with_reducible first | refine And.intro ?_ ?_ | intro _)))
  · exact absurd rfl (by assumption : code ≠ code)
  refine l_call rfl zEvs rfl (markCx_spec u1 zs (by omega)) zTake zFsub ?_
  rintro _ L' F' ⟨rfl, rfl, rfl⟩
  have hheld := heldCx_spec u1 zs.length (by omega)
  have hml := mkx_len zs.length
  all_goals ((try refine zR2 ?_) <;> (repeat' (with_reducible first | refine And.intro ?_ ?_ | intro _)))
  refine l_callH rfl zEvs rfl hheld (lent1 (loanCx (.head _))) ?_
  all_goals ((try refine zR2 ?_) <;> (repeat' (with_reducible first | refine And.intro ?_ ?_ | intro _)))
  all_goals (first | (exfalso; omega) | skip)
  refine l_call rfl zEvs rfl (implPoly_spec t hl) zTake zFsub ?_
  rintro _ L' F' ⟨u2, zs', code', rfl, rfl, rfl, hrel'⟩
  obtain ⟨rfl, rfl⟩ := hrel.uniq hrel'
  refine l_isRow (.own (.head _)) fun hsu2 _ => ?_
  have heq := eqCx_spec u2 u0 zs hfin (by omega)
  all_goals ((try refine zR2 ?_) <;> (repeat' (with_reducible first | refine And.intro ?_ ?_ | intro _)))
  refine l_callH rfl zEvs rfl heq (lent2 (loanCx (.head _)) zMem) ?_
  all_goals ((try refine zR2 ?_) <;> (repeat' (with_reducible first | refine And.intro ?_ ?_ | intro _)))
  · exact absurd rfl (by assumption : code ≠ code)
  refine l_callH rfl zEvs rfl hheld (lent1 (loanCx (.tail _ (.head _)))) ?_
  all_goals ((try refine zR2 ?_) <;> (repeat' (with_reducible first | refine And.intro ?_ ?_ | intro _)))
  all_goals (first | (exfalso; omega) | skip)
  (refine e_gives rfl zRes ?_; first | rfl | (simp [retVal, *]; done) | (simp_all [retVal]; done) | (simp only [retVal]))
end Go.Proofs.YtbllgmcpebifhaaGreatDoor.K
end
