/- The reference's reading of whole numbers. -/
import Derived.Test.YtbllgmcpebifhaaGreatDoorZHd
import Derived.Test.YtbllgmcpebifhaaGreatDoorZMa
namespace Go.Proofs.YtbllgmcpebifhaaGreatDoor.K
open Go Go.RowKit Go.Lib
set_option exponentiation.threshold 8000
set_option linter.all false
set_option maxRecDepth 60000
set_option maxHeartbeats 1000000

/-- The value of the first digits. -/
def hval (t : List UInt8) : Nat := dval ((body t).take 2000)
def sg1 (t : List UInt8) : Int := if isNeg t then -1 else 1
/-- What l02Read hands back. -/
def P2R (t : List UInt8) (r : Value) (L' : List Own) (F' : List Fact) : Prop :=
  ∃ ok sg u l, r = .tuple #[vWhole sg u, .bool ok] ∧ L' = [] ∧ F' = [fList 1 (rInt .i64) u l] ∧ l.length ≤ 300 ∧ (ok = true → Spells t ∧ sg = (if limbs (hval t) = [] then 0 else sg1 t) ∧ l = limbs (hval t)) ∧ (ok = false → ¬ Spells t)
theorem P2R.bad {t : List UInt8} (h : ¬ Spells t) : P2R t (.tuple #[vWhole 0 (.slice none 0 0), .bool false]) [] [fList 1 (rInt .i64) (.slice none 0 0) []] :=
  ⟨false, 0, _, [], rfl, rfl, rfl, by simp, fun h => (by cases h), fun _ => h⟩
theorem hval_lt {t : List UInt8} (hd : ∀ c ∈ body t, isd c) : hval t < 10 ^ 2000 :=
  Nat.lt_of_lt_of_le (dval_lt fun c hc => hd c (List.mem_of_mem_take hc)) (Nat.pow_le_pow_right (by omega) (by rw [List.length_take]; omega))

theorem notSp0 {t : List UInt8} (h : (body t).length = 0) : ¬ Spells t := fun h' => h'.1.1 (List.eq_nil_of_length_eq_zero h)
theorem notSp1 {t D : List UInt8} (hD : body t = D) {x : UInt8} (hx : D[0]? = some x) (h48 : (x.toNat : Int) = 48) (h1 : 1 < (D.length : Int)) : ¬ Spells t := fun h' => by
  subst hD
  refine h'.1.2.2 (by omega) x (by rw [List.head?_eq_getElem?]; exact hx) (by omega)
theorem sg1_neg {t : List UInt8} : sg1 t < 0 ↔ isNeg t = true := by unfold sg1; cases isNeg t <;> simp
theorem one48 {D : List UInt8} {x : UInt8} (hx : D[0]? = some x) (h48 : (x.toNat : Int) = 48) (h1 : ¬ 1 < (D.length : Int)) : D = [48] := by
  match D, hx, h1 with
  | [e], hx, _ =>
    have : e = x := Option.some.inj hx
    rw [this, show x = 48 from UInt8.toNat_inj.1 (by show x.toNat = 48; omega)]
  | _ :: _ :: _, _, h1 => simp at h1; omega
theorem notSp2 {t D : List UInt8} (hD : body t = D) {x : UInt8} (hx : D[0]? = some x) (h48 : (x.toNat : Int) = 48) (h1 : ¬ 1 < (D.length : Int)) (hs : sg1 t < 0) : ¬ Spells t := fun h' => by
  have h0 := one48 hx h48 h1
  exact h'.2 (sg1_neg.1 hs) (by rw [hD, h0]; rfl)
theorem okSp1 {t D : List UInt8} (hD : body t = D) {x : UInt8} (hx : D[0]? = some x) (h48 : (x.toNat : Int) = 48) (h1 : ¬ 1 < (D.length : Int)) (hs : ¬ sg1 t < 0) : (∀ c ∈ D, isd c) → Spells t := fun hd => by
  have h0 := one48 hx h48 h1
  refine ⟨⟨by rw [hD, h0]; simp, by rw [hD]; exact hd, fun h => ?_⟩, fun h => absurd (sg1_neg.2 h) hs⟩
  rw [hD, h0] at h; simp at h
theorem okSp2 {t D : List UInt8} (hD : body t = D) {x : UInt8} (hx : D[0]? = some x) (h48 : ¬ (x.toNat : Int) = 48) : (∀ c ∈ D, isd c) → Spells t := fun hd => by
  have hne : D ≠ [] := by intro h; rw [h] at hx; cases hx
  have hh : ∀ c, D.head? = some c → c.toNat ≠ 48 := fun c hc => by
    rw [List.head?_eq_getElem?, hx] at hc
    rw [← Option.some.inj hc]; omega
  refine ⟨⟨by rw [hD]; exact hne, by rw [hD]; exact hd, fun _ => by rw [hD]; exact hh⟩, fun _ h => ?_⟩
  have := dval_pos hd hne hh
  have h6 : 0 < 10 ^ (D.length - 1) := Nat.pow_pos (by omega)
  rw [hD] at h
  omega

theorem l02Read_spec (t : List UInt8) (hl : t.length ≤ 400000000) : Spec Tryz.prog 195 [.string ⟨t.toArray⟩] [] [] (P2R t) := by
  refine enter Tryz.func195 Tryz.ntmps195 rfl (by kernel_rfl) zCon rfl fun G => ?_
  all_goals ((try refine zS ?_) <;> (repeat' (with_reducible first | refine And.intro ?_ ?_ | intro _)))
  rename_i b2
  cases t with
  | nil =>
    refine l_guard rfl rfl (fun h => absurd h (by decide)) (fun _ => ?_)
    all_goals ((try refine zR ?_) <;> (repeat' (with_reducible first | refine And.intro ?_ ?_ | intro _)))
    all_goals first | (exfalso; simp_all; done) | skip
    refine ends_nilInts .i64 ?_
    exact e_resT rfl zRes .nil (fsub_cons (.head _) fsub_nil) (by exact P2R.bad (notSp0 rfl))
  | cons c r =>
  have hlen : ((c :: r).length : Int) = r.length + 1 := by simp
  have hget0 : (c :: r)[0]? = some c := rfl
  refine l_guard rfl rfl (fun _ => ?_) (fun h => absurd h (by omega))
  all_goals ((try refine zS ?_) <;> (repeat' (with_reducible first | refine And.intro ?_ ?_ | intro _)))
  refine c_mid (κ := Unit) (fun _ => [(4, .int .i64 (sg1 (c :: r))), (5, .string ⟨(body (c :: r)).toArray⟩), (2, ptr b2), (3, .bool false)]) (fun _ => [.box b2 [.int .i64 0, .slice none 0 0] 46]) (fun _ => []) ?_ ?_
  · rw [body_cons]
    unfold sg1
    rw [isNeg_cons]
    by_cases hc : (c.toNat : Int) = 45
    · rw [if_pos hc]
      simp only [hc, decide_true, if_true]
      all_goals ((try refine zR ?_) <;> (repeat' (with_reducible first | refine And.intro ?_ ?_ | intro _)))
      all_goals (first | (exfalso; omega) | skip)
      exact e_out () zSub rfl (fun _ h => h)
    · rw [if_neg hc]
      simp only [hc, decide_false, if_false, Bool.false_eq_true]
      all_goals ((try refine zR ?_) <;> (repeat' (with_reducible first | refine And.intro ?_ ?_ | intro _)))
      all_goals (first | (exfalso; omega) | skip)
      exact e_out () zSub rfl (fun _ h => h)
  intro _
  clear hlen hget0
  revert hl
  generalize c :: r = t
  intro hl
  have hDl := body_len t
  obtain ⟨D, hD⟩ : ∃ D, body t = D := ⟨_, rfl⟩
  rw [hD] at hDl ⊢
  have hsg : sg1 t = -1 ∨ sg1 t = 1 := by unfold sg1; split <;> simp
  refine c_seq ?_
  refine c_mid (κ := { _u : Unit // (∀ c ∈ D, isd c) → Spells t }) (fun _ => [(4, .int .i64 (sg1 t)), (5, .string ⟨D.toArray⟩), (2, ptr b2), (3, .bool false)]) (fun _ => [.box b2 [.int .i64 0, .slice none 0 0] 46]) (fun _ => []) ?_ ?_
  · cases D with
    | nil =>
      all_goals ((try refine zR ?_) <;> (repeat' (with_reducible first | refine And.intro ?_ ?_ | intro _)))
      refine ends_nilInts .i64 ?_
      exact e_resT rfl zRes .nil (fsub_cons (.head _) fsub_nil) (by exact P2R.bad (notSp0 (by rw [hD]; rfl)))
    | cons x D' =>
      have hlen : ((x :: D').length : Int) = D'.length + 1 := by simp
      have hget0 : (x :: D')[0]? = some x := rfl
      all_goals ((try refine zR ?_) <;> (repeat' (with_reducible first | refine And.intro ?_ ?_ | intro _)))
      · rename_i h48 h1
        refine ends_nilInts .i64 ?_
        exact e_resT rfl zRes .nil (fsub_cons (.head _) fsub_nil) (by exact P2R.bad (notSp1 hD hget0 h48 h1))
      · rename_i h48 h1 hs
        refine ends_nilInts .i64 ?_
        exact e_resT rfl zRes .nil (fsub_cons (.head _) fsub_nil) (by exact P2R.bad (notSp2 hD hget0 h48 h1 hs))
      · rename_i h48 h1 hs
        exact e_out ⟨(), okSp1 hD hget0 h48 h1 hs⟩ zSub rfl (fun _ h => h)
      · rename_i h48
        exact e_out ⟨(), okSp2 hD hget0 h48⟩ zSub rfl (fun _ h => h)
  · rintro ⟨_, hok⟩
    all_goals ((try refine zS ?_) <;> (repeat' (with_reducible first | refine And.intro ?_ ?_ | intro _)))
    refine c_while (ι := { i : Nat // i ≤ D.length ∧ ∀ c ∈ D.take i, isd c }) (κ := { _u : Unit // ∀ c ∈ D, isd c })
      (fun i => [(6, .int .i64 (i.1 : Int)), (4, .int .i64 (sg1 t)), (5, .string ⟨D.toArray⟩), (2, ptr b2), (3, .bool false)]) (fun _ => [.box b2 [.int .i64 0, .slice none 0 0] 46]) (fun _ => []) (fun i => D.length - i.1)
      (fun _ => [(4, .int .i64 (sg1 t)), (5, .string ⟨D.toArray⟩), (2, ptr b2), (3, .bool false)]) (fun _ => [.box b2 [.int .i64 0, .slice none 0 0] 46]) (fun _ => []) ⟨0, Nat.zero_le _, by simp⟩ (fun _ _ s => s.start zSub zRfl zFsub) ?_ ?_
    · rintro ⟨i, hi, hpre⟩
      dsimp only
      by_cases hil : i < D.length
      · have hget : D[i]? = some D[i] := List.getElem?_eq_getElem hil
        have hmem : D[i] ∈ D := List.getElem_mem hil
        have htk : D.take (i + 1) = D.take i ++ [D[i]] := List.take_succ_eq_append_getElem hil
        revert hget hmem htk
        generalize D[i] = e
        intro hget hmem htk
        have hbad : ¬ isd e → ¬ Spells t := fun h h' => h (h'.1.2.1 e (hD ▸ hmem))
        all_goals ((try refine zR ?_) <;> (repeat' (with_reducible first | refine And.intro ?_ ?_ | intro _)))
        all_goals (first | (exfalso; omega) | skip)
        · refine ends_nilInts .i64 ?_
          exact e_resT rfl zRes .nil (fsub_cons (.head _) fsub_nil) (by exact P2R.bad (hbad (by unfold isd; omega)))
        · refine ends_nilInts .i64 ?_
          exact e_resT rfl zRes .nil (fsub_cons (.head _) fsub_nil) (by exact P2R.bad (hbad (by unfold isd; omega)))
        · refine e_again ⟨i + 1, by omega, fun c hc => ?_⟩ (by dsimp only; omega) zSub rfl (fun _ h => h)
          rw [htk] at hc
          rcases List.mem_append.1 hc with h | h
          · exact hpre c h
          · rw [List.mem_singleton.1 h]; unfold isd; omega
      · all_goals ((try refine zR ?_) <;> (repeat' (with_reducible first | refine And.intro ?_ ?_ | intro _)))
        all_goals (first | (exfalso; omega) | skip)
        have : i = D.length := by omega
        subst this
        rw [List.take_length] at hpre
        exact e_out ⟨(), hpre⟩ zSub rfl (fun _ h => h)
    · rintro ⟨_, hdig⟩
      have hS := hok hdig
      all_goals ((try refine zS ?_) <;> (repeat' (with_reducible first | refine And.intro ?_ ?_ | intro _)))
      rename_i r0
      refine c_while (ι := { p : Nat × Value // p.1 ≤ D.length ∧ p.1 ≤ 2000 }) (κ := Value)
        (fun p => [(8, .int .i64 (p.1.1 : Int)), (7, p.1.2), (4, .int .i64 (sg1 t)), (5, .string ⟨D.toArray⟩), (2, ptr b2), (3, .bool false)])
        (fun p => [.row p.1.2 2 1 (limbs (dval (D.take p.1.1))).length ((limbs (dval (D.take p.1.1))).map (Value.int .i64)), .box b2 [.int .i64 0, .slice none 0 0] 46]) (fun _ => []) (fun p => D.length - p.1.1)
        (fun r => [(7, r), (4, .int .i64 (sg1 t)), (5, .string ⟨D.toArray⟩), (2, ptr b2), (3, .bool false)])
        (fun r => [.row r 2 1 (limbs (hval t)).length ((limbs (hval t)).map (Value.int .i64)), .box b2 [.int .i64 0, .slice none 0 0] 46]) (fun _ => []) ⟨(0, r0), Nat.zero_le _, Nat.zero_le _⟩ (fun a w s => s.start zSub (by simp [dval, limbs_zero]) zFsub) ?_ ?_
      · rintro ⟨⟨i, r⟩, hi, hi2⟩
        dsimp only at hi hi2 ⊢
        have hn : dval (D.take i) < 10 ^ 2000 := Nat.lt_of_lt_of_le (dval_lt fun c hc => hdig c (List.mem_of_mem_take hc)) (Nat.pow_le_pow_right (by omega) (by rw [List.length_take]; omega))
        have hll := limbs_len300 hn
        clear hn
        by_cases hil : i < D.length ∧ i < 2000
        · obtain ⟨hil, hi2000⟩ := hil
          have hisd := hdig _ (List.getElem_mem hil)
          have hget : D[i]? = some D[i] := List.getElem?_eq_getElem hil
          have hsn : dval (D.take (i + 1)) = 10 * dval (D.take i) + (D[i].toNat - 48) := by rw [List.take_succ_eq_append_getElem hil, dval_snoc]
          revert hisd hget hsn
          generalize D[i] = e
          intro hisd hget hsn
          obtain ⟨he1, he2⟩ := hisd
          have hml := ma_limbs (dval (D.take i)) ((e.toNat : Int) - 48) (by omega)
          rw [show 10 * dval (D.take i) + ((e.toNat : Int) - 48).toNat = dval (D.take (i + 1)) by omega] at hml
          have hlr := limbs_range (dval (D.take i))
          clear hsn
          revert hll hml hlr
          generalize limbs (dval (D.take i)) = ls
          intro hll hml hlr
          all_goals ((try refine zR ?_) <;> (repeat' (with_reducible first | refine And.intro ?_ ?_ | intro _)))
          all_goals (first | (exfalso; omega) | skip)
          refine c_while (ι := { k : Nat // k ≤ ls.length }) (κ := Unit)
            (fun k => [(10, .int .i64 (k.1 : Int)), (9, .int .i64 (ma (ls.take k.1) ((e.toNat : Int) - 48)).2), (8, .int .i64 (i : Int)), (7, r), (4, .int .i64 (sg1 t)), (5, .string ⟨D.toArray⟩), (2, ptr b2), (3, .bool false)])
            (fun k => [.row r 2 1 ls.length (((ma (ls.take k.1) ((e.toNat : Int) - 48)).1 ++ ls.drop k.1).map (Value.int .i64)), .box b2 [.int .i64 0, .slice none 0 0] 46]) (fun _ => []) (fun k => ls.length - k.1)
            (fun _ => [(9, .int .i64 (ma ls ((e.toNat : Int) - 48)).2), (8, .int .i64 (i : Int)), (7, r), (4, .int .i64 (sg1 t)), (5, .string ⟨D.toArray⟩), (2, ptr b2), (3, .bool false)])
            (fun _ => [.row r 2 1 ls.length ((ma ls ((e.toNat : Int) - 48)).1.map (Value.int .i64)), .box b2 [.int .i64 0, .slice none 0 0] 46]) (fun _ => []) ⟨0, Nat.zero_le _⟩ (fun a w s => s.start zSub (by simp [ma]) zFsub) ?_ ?_
          · rintro ⟨k, hk⟩
            dsimp only
            by_cases hkl : k < ls.length
            · have hdrop : ls.drop k = ls[k] :: ls.drop (k + 1) := List.drop_eq_getElem_cons hkl
              have htk : ls.take (k + 1) = ls.take k ++ [ls[k]] := List.take_succ_eq_append_getElem hkl
              have hy := hlr _ (List.getElem_mem hkl)
              have hAl : (ma (ls.take k) ((e.toNat : Int) - 48)).1.length = k := by rw [ma_len, List.length_take]; omega
              have hcc := ma_carry (ls.take k) (fun z hz => hlr z (List.mem_of_mem_take hz)) ((e.toNat : Int) - 48) (by omega)
              have hsn := ma_snoc (ls.take k) ls[k] ((e.toNat : Int) - 48)
              rw [← htk] at hsn
              rw [hdrop]
              clear hdrop htk
              revert hy hAl hcc hsn
              generalize (ma (ls.take k) ((e.toNat : Int) - 48)).1 = A
              generalize (ma (ls.take k) ((e.toNat : Int) - 48)).2 = cc
              generalize ls[k] = y
              intro hy hAl hcc hsn
              have hgety : (A ++ y :: ls.drop (k + 1))[k]? = some y := by rw [List.getElem?_append_right (by omega), hAl]; simp
              have hlenA : (A ++ y :: ls.drop (k + 1)).length = ls.length := by simp [hAl]; omega
              have e9 : Value.int .i64 ((cc + 10 * y) / 16777216) = .int .i64 (ma (ls.take (k + 1)) ((e.toNat : Int) - 48)).2 := by rw [hsn]
              obtain ⟨hy1, hy2⟩ := hy
              obtain ⟨hc1, hc2⟩ := hcc
              all_goals ((try refine zR ?_) <;> (repeat' (with_reducible first | refine And.intro ?_ ?_ | intro _)))
              all_goals (first | (exfalso; omega) | skip)
              refine e_again ⟨k + 1, hkl⟩ (by dsimp only; omega) zSub ?_ (fun _ h => h)
              have hset := row_set A y ((cc + 10 * y) % 16777216) (ls.drop (k + 1))
              rw [hAl] at hset
              dsimp only
              rw [hset, hsn]
              simp
            · all_goals ((try refine zR ?_) <;> (repeat' (with_reducible first | refine And.intro ?_ ?_ | intro _)))
              all_goals (first | (exfalso; omega) | skip)
              have : k = ls.length := by omega
              subst this
              exact e_out () zSub (by simp) (fun _ h => h)
          · intro _
            have hmal := ma_len ls ((e.toNat : Int) - 48)
            all_goals ((try refine zR ?_) <;> (repeat' (with_reducible first | refine And.intro ?_ ?_ | intro _)))
            · rename_i v0 v'
              have hnew := hml.1 (by assumption)
              refine e_again ⟨(i + 1, v'), hil, hi2000⟩ (by dsimp only; omega) zSub ?_ (fun _ h => h)
              dsimp only
              rw [← hnew, List.length_append, hmal]
              rfl
            · have hnew := hml.2 (by assumption)
              refine e_again ⟨(i + 1, r), hil, hi2000⟩ (by dsimp only; omega) zSub ?_ (fun _ h => h)
              dsimp only
              rw [← hnew, hmal]
        · have hend : limbs (dval (D.take i)) = limbs (hval t) := by
            unfold hval
            rw [hD]
            by_cases h : i < D.length
            · have : i = 2000 := by omega
              rw [this]
            · have : i = D.length := by omega
              rw [this, List.take_length, List.take_of_length_le (by omega)]
          rw [hend] at hll ⊢
          by_cases h : i < D.length
          · have h2 : ¬ i < 2000 := fun h2 => hil ⟨h, h2⟩
            all_goals ((try refine zR ?_) <;> (repeat' (with_reducible first | refine And.intro ?_ ?_ | intro _)))
            all_goals (first | (exfalso; omega) | skip)
            exact e_out r zSub rfl (fun _ h => h)
          · all_goals ((try refine zR ?_) <;> (repeat' (with_reducible first | refine And.intro ?_ ?_ | intro _)))
            all_goals (first | (exfalso; omega) | skip)
            exact e_out r zSub rfl (fun _ h => h)
      · intro r
        refine c_freezeInts (ik := .i64) (l := limbs (hval t)) .head rfl ?_
        have hll := limbs_len300 (hval_lt (t := t) (by rw [hD]; exact hdig))
        all_goals ((try refine zR ?_) <;> (repeat' (with_reducible first | refine And.intro ?_ ?_ | intro _)))
        refine l_call rfl zEvs rfl (l02Make_spec (sg1 t) r (limbs (hval t)) (by omega) (limbs_trim _)) zTake zFsub ?_
        rintro _ L' F' ⟨u, rfl, rfl, rfl⟩
        refine l_isList (.head _) fun hsu => ?_
        all_goals ((try refine zR ?_) <;> (repeat' (with_reducible first | refine And.intro ?_ ?_ | intro _)))
        exact e_resT rfl zRes .nil (fsub_cons (.head _) fsub_nil) ⟨true, _, u, _, rfl, rfl, rfl, hll, fun _ => ⟨hS, rfl, rfl⟩, fun h => (by cases h)⟩
end Go.Proofs.YtbllgmcpebifhaaGreatDoor.K
