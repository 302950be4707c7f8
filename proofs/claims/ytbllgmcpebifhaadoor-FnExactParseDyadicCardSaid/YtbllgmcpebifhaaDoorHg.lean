/- The law of ParseDyadic: marks, and the walk. -/
import Derived.Test.YtbllgmcpebifhaaDoorHf
namespace Go.Proofs.YtbllgmcpebifhaaDoor.K
open Go Go.RowKit Go.Lib
set_option linter.all false
set_option maxRecDepth 60000
set_option maxHeartbeats 1000000

/-- n numbers from k on. -/
def mk (k : Int) : Nat → List Int
  | 0 => []
  | n + 1 => mk k n ++ [k + (n : Int)]
theorem mk_len (k : Int) : ∀ n, (mk k n).length = n
  | 0 => rfl
  | n + 1 => by rw [mk, List.length_append, mk_len k n]; rfl
theorem mk_get (k : Int) : ∀ n i, i < n → (mk k n)[i]? = some (k + (i : Int))
  | 0, i, h => absurd h (Nat.not_lt_zero _)
  | n + 1, i, h => by
    rw [mk]
    by_cases hi : i < n
    · rw [List.getElem?_append_left (by rw [mk_len]; exact hi), mk_get k n i hi]
    · have : i = n := by omega
      subst this
      rw [List.getElem?_append_right (by rw [mk_len]; exact Nat.le_refl _), mk_len]; simp

theorem markInt64S_spec (v : Value) (l : List Int) (k : Int) (hl : l.length ≤ 1000000) (hk : 0 ≤ k ∧ k ≤ 1000000000) : Spec Tryd.prog 32 [v, .int .i64 k] [.row v 2 1 l.length (l.map (Value.int .i64))] []
    (PVal (.int .i64 (k + (l.length : Int))) [.row v 2 1 l.length ((mk k l.length).map (Value.int .i64))]) := by
  refine enter Tryd.func32 Tryd.ntmps32 rfl (by kernel_rfl) zCon rfl fun G => ?_
  all_goals ((try refine zR ?_) <;> (repeat' (with_reducible first | refine And.intro ?_ ?_ | intro _)))
  refine c_while (ι := { i : Nat // i ≤ l.length }) (κ := Unit)
    (fun i => [(5, .int .i64 (i.1 : Int)), (1, .int .i64 (k + (i.1 : Int))), (0, v)]) (fun i => [.row v 2 1 l.length ((mk k i.1 ++ l.drop i.1).map (Value.int .i64))]) (fun _ => []) (fun i => l.length - i.1)
    (fun _ => [(1, .int .i64 (k + (l.length : Int))), (0, v)]) (fun _ => [.row v 2 1 l.length ((mk k l.length).map (Value.int .i64))]) (fun _ => []) ⟨0, Nat.zero_le _⟩ (fun a w s => s.start zSub (by simp [mk]) zFsub) ?_ ?_
  · rintro ⟨i, hi⟩
    dsimp only
    by_cases hil : i < l.length
    · have hdrop : l.drop i = l[i] :: l.drop (i + 1) := List.drop_eq_getElem_cons hil
      have hml := mk_len k i
      rw [hdrop]
      clear hdrop
      generalize l[i] = y
      have hgety : (mk k i ++ y :: l.drop (i + 1))[i]? = some y := by rw [List.getElem?_append_right (by omega), hml]; simp
      have hlenA : (mk k i ++ y :: l.drop (i + 1)).length = l.length := by simp [hml]; omega
      all_goals ((try refine zR ?_) <;> (repeat' (with_reducible first | refine And.intro ?_ ?_ | intro _)))
      all_goals (first | (exfalso; omega) | skip)
      refine e_again ⟨i + 1, hil⟩ (by dsimp only; omega) zSub ?_ (fun _ h => h)
      have hset := row_set (mk k i) y (k + (i : Int)) (l.drop (i + 1))
      rw [hml] at hset
      dsimp only
      rw [hset, mk]
      simp
    · all_goals ((try refine zR ?_) <;> (repeat' (with_reducible first | refine And.intro ?_ ?_ | intro _)))
      all_goals (first | (exfalso; omega) | skip)
      have : i = l.length := by omega
      subst this
      exact e_out () zSub (by simp) (fun _ h => h)
  · intro _
    all_goals ((try refine zR ?_) <;> (repeat' (with_reducible first | refine And.intro ?_ ?_ | intro _)))
    exact e_resT rfl zRes (.cons .head .nil) fsub_nil ⟨rfl, rfl, rfl⟩
theorem heldInt64S_spec (v : Value) (n : Nat) (k : Int) (hn : n ≤ 1000000) (hk : 0 ≤ k ∧ k ≤ 1000000000) : Spec Tryd.prog 33 [v, .int .i64 k] [] [fList 1 (rInt .i64) v (mk k n)]
    (Gives (.int .i64 (k + (n : Int)))) := by
  refine enter Tryd.func33 Tryd.ntmps33 rfl (by kernel_rfl) zCon rfl fun G => ?_
  have hml := mk_len k n
  all_goals ((try refine zR ?_) <;> (repeat' (with_reducible first | refine And.intro ?_ ?_ | intro _)))
  refine c_while (ι := { i : Nat // i ≤ n }) (κ := Unit)
    (fun i => [(5, .int .i64 (i.1 : Int)), (1, .int .i64 (k + (i.1 : Int))), (0, v)]) (fun _ => []) (fun _ => [fList 1 (rInt .i64) v (mk k n)]) (fun i => n - i.1)
    (fun _ => [(1, .int .i64 (k + (n : Int))), (0, v)]) (fun _ => []) (fun _ => []) ⟨0, Nat.zero_le _⟩ (fun _ _ s => s.start zSub zRfl zFsub) ?_ ?_
  · rintro ⟨i, hi⟩
    dsimp only
    by_cases hil : i < n
    · have hget := mk_get k n i hil
      all_goals ((try refine zR ?_) <;> (repeat' (with_reducible first | refine And.intro ?_ ?_ | intro _)))
      all_goals (first | (exfalso; omega) | skip)
      exact e_again ⟨i + 1, hil⟩ (by dsimp only; omega) zSub rfl (fun _ h => h)
    · all_goals ((try refine zR ?_) <;> (repeat' (with_reducible first | refine And.intro ?_ ?_ | intro _)))
      all_goals (first | (exfalso; omega) | skip)
      have : i = n := by omega
      subst this
      exact e_out () zSub rfl zFsub
  · intro _
    all_goals ((try refine zR ?_) <;> (repeat' (with_reducible first | refine And.intro ?_ ?_ | intro _)))
    (refine e_gives rfl zRes ?_; first | rfl | (simp [retVal, *]; done) | (simp_all [retVal]; done) | (simp only [retVal]))
theorem markWhole_spec (sg : Int) (v : Value) (l : List Int) (k : Int) (hl : l.length ≤ 1000000) (hk : 0 ≤ k ∧ k ≤ 1000000000) : Spec Tryd.prog 16 [vWhole sg v, .int .i64 k] [.row v 2 1 l.length (l.map (Value.int .i64))] []
    (PVal (.int .i64 (k + (l.length : Int))) [.row v 2 1 l.length ((mk k l.length).map (Value.int .i64))]) := by
  refine enter Tryd.func16 Tryd.ntmps16 rfl (by kernel_rfl) zCon rfl fun G => ?_
  refine c_isRow (.own (.head _)) fun hs _ => ?_
  all_goals ((try refine zR ?_) <;> (repeat' (with_reducible first | refine And.intro ?_ ?_ | intro _)))
  refine l_call rfl zEvs rfl (markInt64S_spec v l k hl hk) zTake zFsub ?_
  rintro _ L' F' ⟨rfl, rfl, rfl⟩
  all_goals ((try refine zR ?_) <;> (repeat' (with_reducible first | refine And.intro ?_ ?_ | intro _)))
  exact e_resT rfl zRes zTake fsub_nil ⟨rfl, rfl, rfl⟩
theorem markDyadic_spec (sg e : Int) (v : Value) (l : List Int) (k : Int) (hl : l.length ≤ 1000000) (hk : 0 ≤ k ∧ k ≤ 1000000000) : Spec Tryd.prog 7 [vDyadic sg v e, .int .i64 k] [.row v 2 1 l.length (l.map (Value.int .i64))] []
    (PVal (.int .i64 (k + (l.length : Int))) [.row v 2 1 l.length ((mk k l.length).map (Value.int .i64))]) := by
  refine enter Tryd.func7 Tryd.ntmps7 rfl (by kernel_rfl) zCon rfl fun G => ?_
  refine c_isRow (.own (.head _)) fun hs _ => ?_
  all_goals ((try refine zR ?_) <;> (repeat' (with_reducible first | refine And.intro ?_ ?_ | intro _)))
  refine l_call rfl zEvs rfl (markWhole_spec sg v l k hl hk) zTake zFsub ?_
  rintro _ L' F' ⟨rfl, rfl, rfl⟩
  all_goals ((try refine zR ?_) <;> (repeat' (with_reducible first | refine And.intro ?_ ?_ | intro _)))
  exact e_resT rfl zRes zTake fsub_nil ⟨rfl, rfl, rfl⟩
theorem heldWhole_spec (sg : Int) (v : Value) (n : Nat) (k : Int) (hn : n ≤ 1000000) (hk : 0 ≤ k ∧ k ≤ 1000000000) : Spec Tryd.prog 17 [vWhole sg v, .int .i64 k] [] [fList 1 (rInt .i64) v (mk k n)]
    (Gives (.int .i64 (k + (n : Int)))) := by
  refine enter Tryd.func17 Tryd.ntmps17 rfl (by kernel_rfl) zCon rfl fun G => ?_
  have h1 := heldInt64S_spec v n k hn hk
  refine c_isList (v := v) zMem fun hsl => ?_
  all_goals (((try refine zR ?_) <;> (repeat' (with_reducible first | refine And.intro ?_ ?_ | intro _))) <;> (repeat' ((first | ((with_reducible apply l_callP); exact rfl; exact zEvs; exact rfl; (with_reducible apply h1); (case hF => exact zFsub); (try any_goals (refine propId ?_; omega)))) <;> ((try refine zR ?_) <;> (repeat' (with_reducible first | refine And.intro ?_ ?_ | intro _))))))
  all_goals (first | (exfalso; omega) | skip)
  (refine e_gives rfl zRes ?_; first | rfl | (simp [retVal, *]; done) | (simp_all [retVal]; done) | (simp only [retVal]))
theorem heldDyadic_spec (sg e : Int) (v : Value) (n : Nat) (k : Int) (hn : n ≤ 1000000) (hk : 0 ≤ k ∧ k ≤ 1000000000) : Spec Tryd.prog 8 [vDyadic sg v e, .int .i64 k] [] [fList 1 (rInt .i64) v (mk k n)]
    (Gives (.int .i64 (k + (n : Int)))) := by
  refine enter Tryd.func8 Tryd.ntmps8 rfl (by kernel_rfl) zCon rfl fun G => ?_
  have h1 := heldWhole_spec sg v n k hn hk
  refine c_isList (v := v) zMem fun hsl => ?_
  all_goals (((try refine zR ?_) <;> (repeat' (with_reducible first | refine And.intro ?_ ?_ | intro _))) <;> (repeat' ((first | ((with_reducible apply l_callP); exact rfl; exact zEvs; exact rfl; (with_reducible apply h1); (case hF => exact zFsub); (try any_goals (refine propId ?_; omega)))) <;> ((try refine zR ?_) <;> (repeat' (with_reducible first | refine And.intro ?_ ?_ | intro _))))))
  all_goals (first | (exfalso; omega) | skip)
  (refine e_gives rfl zRes ?_; first | rfl | (simp [retVal, *]; done) | (simp_all [retVal]; done) | (simp only [retVal]))
/-- What both readings answer. -/
def Rel (t : List UInt8) (sg e : Int) (l : List Int) (code : Int) : Prop :=
  (∃ v, PDy t v e ∧ sg = sgn v ∧ l = limbs v.natAbs ∧ code = 0) ∨ ((∀ v e, ¬ PDy t v e) ∧ sg = 0 ∧ e = 0 ∧ l = [] ∧ code = 6)
theorem Rel.uniq {t : List UInt8} {sg sg' e e' : Int} {l l' : List Int} {code code' : Int} (h : Rel t sg e l code) (h' : Rel t sg' e' l' code') : sg = sg' ∧ e = e' ∧ l = l' ∧ code = code' := by
  rcases h with ⟨v, h1, rfl, rfl, rfl⟩ | ⟨h1, rfl, rfl, rfl, rfl⟩
  · rcases h' with ⟨v', h1', rfl, rfl, rfl⟩ | ⟨h1', rfl, rfl, rfl, rfl⟩
    · obtain ⟨h2, h3⟩ := split_uniq (h1.1.symm.trans h1'.1) (itoa_no_p v) (itoa_no_p v')
      rw [itoa_inj h2, itoa_inj h3]
      exact ⟨rfl, rfl, rfl, rfl⟩
    · exact absurd h1 (h1' _ _)
  · rcases h' with ⟨v', h1', rfl, rfl, rfl⟩ | ⟨h1', rfl, rfl, rfl, rfl⟩
    · exact absurd h1' (h1 _ _)
    · exact ⟨rfl, rfl, rfl, rfl⟩
theorem Rel.len {t : List UInt8} {sg e : Int} {l : List Int} {code : Int} (h : Rel t sg e l code) : l.length ≤ 200 := by
  rcases h with ⟨v, h1, rfl, rfl, rfl⟩ | ⟨h1, rfl, rfl, rfl, rfl⟩
  · exact h1.2.1.len
  · simp
/-- A call of the program's reading. -/
theorem l_parse {G : Ctx} {n : Nat} {P : Program} {ops : Array Oper} {Q : Post} {rest : List Oper} {m : Regs} {L : List Own} {F : List Fact} {d : Nat} {ty : TypeId} {pos : String} {af : Array Edge} {g : Option (Nat × Bool)} {f : FuncId} {xs : List Operand} {vs : List Value} {ts : Array TypeId} {Fc : List Fact} {t : List UInt8}
    (hw : wantG ops m g = some true) (hv : Evs m xs vs) (hd : Nat.blt d n = true) (hs : Spec P f vs [] Fc (PPD t)) (hF : ∀ φ, φ ∈ Fc → φ ∈ F)
    (h : ∀ sg u e l code, Rel t sg e l code → RunL G n P ops Q rest ((d, .tuple #[vDyadic sg u e, .int .i64 code]) :: m) (.row u 2 1 l.length (l.map (Value.int .i64)) :: L) F) :
    RunL G n P ops Q (⟨some d, .call ⟨.value (.func f), xs.toArray, ts⟩, ty, pos, af, g⟩ :: rest) m L F := by
  refine l_call0 hw hv hd hs Take.nil hF PPD.noF ?_
  rintro _ L' (⟨v, e, u, h1, rfl, rfl, _⟩ | ⟨h1, rfl, rfl, _⟩)
  · exact h _ _ _ _ _ (.inl ⟨v, h1, rfl, rfl, rfl⟩)
  · exact l_nilRow 1 (h _ _ _ [] _ (.inr ⟨h1, rfl, rfl, rfl, rfl⟩))

theorem law_spec (t : List UInt8) : Spec Tryd.prog 3 [.string ⟨t.toArray⟩] [] [fMax, fSyn, fRng, fTab] (Gives (.bool true)) := by
  refine enter Tryd.func3 Tryd.ntmps3 rfl (by kernel_rfl) zCon rfl fun G => ?_
  all_goals ((try refine zR ?_) <;> (repeat' (with_reducible first | refine And.intro ?_ ?_ | intro _)))
  · (refine e_gives rfl zRes ?_; first | rfl | (simp [retVal, *]; done) | (simp_all [retVal]; done) | (simp only [retVal]))
  have hl : t.length ≤ 2000000 := by omega
  refine l_call rfl zEvs rfl (specParse_spec t hl) zTake zFsub ?_
  rintro _ L' F' ⟨sg, u0, e, l, code, rfl, rfl, rfl, hrel⟩
  refine l_isList (.head _) fun hsu0 => ?_
  have hlen := Rel.len hrel
  all_goals ((try refine zR ?_) <;> (repeat' (with_reducible first | refine And.intro ?_ ?_ | intro _)))
  refine l_parse rfl zEvs rfl (ParseDyadic_spec t hl) zFsub ?_
  intro sg' u1 e' l' code' hrel'
  obtain ⟨rfl, rfl, rfl, rfl⟩ := Rel.uniq hrel hrel'
  refine l_isRow (.own (.head _)) fun hsu1 _ => ?_
  have heq := eqDyadic_spec u1 u0 l l sg sg e e
  simp only [and_self, decide_true] at heq
  all_goals ((try refine zR ?_) <;> (repeat' (with_reducible first | refine And.intro ?_ ?_ | intro _)))
  refine l_callG rfl zEvs rfl heq (loan2 (.ints zMem rfl) zMem) ?_
  all_goals ((try refine zR ?_) <;> (repeat' (with_reducible first | refine And.intro ?_ ?_ | intro _)))
  · exact absurd rfl (by assumption : code ≠ code)
  refine l_call rfl zEvs rfl (markDyadic_spec sg e u1 l 1 (by omega) (by omega)) zTake zFsub ?_
  rintro _ L' F' ⟨rfl, rfl, rfl⟩
  have hheld := heldDyadic_spec sg e u1 l.length 1 (by omega) (by omega)
  all_goals ((try refine zR ?_) <;> (repeat' (with_reducible first | refine And.intro ?_ ?_ | intro _)))
  refine l_callG rfl zEvs rfl hheld (loan1 (.ints zMem rfl)) ?_
  all_goals ((try refine zR ?_) <;> (repeat' (with_reducible first | refine And.intro ?_ ?_ | intro _)))
  all_goals (first | (exfalso; omega) | skip)
  refine l_parse rfl zEvs rfl (ParseDyadic_spec t hl) zFsub ?_
  intro sg' u2 e' l' code' hrel'
  obtain ⟨rfl, rfl, rfl, rfl⟩ := Rel.uniq hrel hrel'
  refine l_isRow (.own (.head _)) fun hsu2 _ => ?_
  have heq := eqDyadic_spec u2 u0 l l sg sg e e
  simp only [and_self, decide_true] at heq
  all_goals ((try refine zR ?_) <;> (repeat' (with_reducible first | refine And.intro ?_ ?_ | intro _)))
  refine l_callG rfl zEvs rfl heq (loan2 (.ints (by exact .tail _ (.head _)) rfl) zMem) ?_
  all_goals ((try refine zR ?_) <;> (repeat' (with_reducible first | refine And.intro ?_ ?_ | intro _)))
  · exact absurd rfl (by assumption : code ≠ code)
  refine l_callG rfl zEvs rfl hheld (loan1 (.ints zMem rfl)) ?_
  all_goals ((try refine zR ?_) <;> (repeat' (with_reducible first | refine And.intro ?_ ?_ | intro _)))
  all_goals (first | (exfalso; omega) | skip)
  (refine e_gives rfl zRes ?_; first | rfl | (simp [retVal, *]; done) | (simp_all [retVal]; done) | (simp only [retVal]))
end Go.Proofs.YtbllgmcpebifhaaDoor.K
