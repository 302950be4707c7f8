/- Separated numbers: the program's walk and the reference's. -/
import Derived.Test.YtbllgmcpebifhaaGreatDoorZSq
import Derived.Test.YtbllgmcpebifhaaGreatDoorZSr

section
namespace Go.Proofs.YtbllgmcpebifhaaGreatDoor.K
open Go Go.RowKit Ieee
set_option linter.all false
set_option maxRecDepth 10000
set_option maxHeartbeats 1000000
set_option exponentiation.threshold 3000

theorem FW.val {e : Nat} {a : Int} (u : FW e) (h : fv e = some a) : u.1 = e := by
  have h1 := u.2.1
  have h2 : nanB u.1 = false := by
    cases hn : nanB u.1 with
    | false => rfl
    | true =>
      rw [nf_nan hn] at h1
      rw [← h1, show fv NAN = none by decide +kernel] at h
      cases h
  rw [nf_num h2, Nat.mod_eq_of_lt u.2.2] at h1
  exact h1
theorem modW_self {a : Int} {x : Nat} (h : Mod1 a x) : modW x = x := by
  unfold modW
  rw [fval_of h.1.2.1]
  obtain ⟨q, hq⟩ := h.2.1
  have : mp a = a := by rw [hq]; exact mp_fix q
  rw [this]
  exact h.1.eq.symm
theorem Mod1.fin1 {a : Int} {x : Nat} (h : Mod1 a x) : Fin1 x := ⟨h.1.1, a, h.1.2.1⟩
theorem Mod1.fit {a : Int} {x : Nat} (h : Mod1 a x) : fitB x = true := by unfold fitB; rw [fval_of h.1.2.1]; exact decide_eq_true h.2.2
structure InS (i : Nat) (done : List (Nat × Nat)) (z0 z : Nat × Nat) : Prop where
  can : Can z
  near : z = z0 ∨ Sml (i + 1) z
  go : ∀ w, Sp (upB z0) done z w → Sp (upB z0) done z0 w
structure OutS (ms : List (Nat × Nat)) (i : Nat) (done : List (Nat × Nat)) : Prop where
  len : done.length = i
  sep : SepR (ms.take i) done
  can : ∀ p ∈ done, Can p
  sml : i < ms.length → ∀ p ∈ done, Sml i p
theorem InS.start {i : Nat} {done : List (Nat × Nat)} {z0 : Nat × Nat} (h : Can z0) : InS i done z0 z0 := ⟨h, .inl rfl, fun _ h => h⟩
theorem InS.step {i : Nat} {done : List (Nat × Nat)} {z0 z : Nat × Nat} (h : InS i done z0 z) (hs : ∀ p ∈ done, Sml i p) (hm : z ∈ done) (hi : i ≤ 1000) :
    InS i done z0 (stepC (upB z0) z) ∧ cnt (upB z0) done (fval (stepC (upB z0) z).1) < cnt (upB z0) done (fval z.1) := by
  obtain ⟨b, h1, h2, h3, h4, h5, h6, h7, h8, h9⟩ := stepC_ok (upB z0) h.can (hs z hm) hi
  exact ⟨⟨h6, .inr h7, fun w hw => h.go w (.step hm hw)⟩, cnt_lt hm rfl h8 h9⟩
/-- What both sides compute in a step. -/
theorem InS.comp {i : Nat} {done : List (Nat × Nat)} {z0 z : Nat × Nat} (h : InS i done z0 z) (hs : ∀ p ∈ done, Sml i p) (hm : z ∈ done) (hi : i ≤ 1000) :
    (∃ t, fv (stepS z.1) = some t ∧ stepS z.1 < 18446744073709551616 ∧ t ≠ 0) ∧ (∃ b, fv (fop (bif upB z0 then .add else .sub) z.1 (stepS z.1)) = some b) ∧
    Fin1 (fop (bif upB z0 then .add else .sub) z.1 (stepS z.1)) ∧ Fin1 z.2 ∧ fitC (fop (bif upB z0 then .add else .sub) z.1 (stepS z.1), z.2) = true ∧ modW (fop (bif upB z0 then .add else .sub) z.1 (stepS z.1)) = (stepC (upB z0) z).1 ∧ modW z.2 = (stepC (upB z0) z).2 := by
  obtain ⟨a, c, ha, hc⟩ := h.can
  obtain ⟨b, h1, h2, h3, h4, h5, h6, h7, h8, h9⟩ := stepC_ok (upB z0) h.can (hs z hm) hi
  have hsm := hs z hm
  unfold Sml at hsm
  rw [fval_of ha.1.2.1] at hsm
  obtain ⟨q, hq⟩ := ha.2.1
  have b75 := big_pow 75
  have b74 := big_pow 74
  have b46 := big_pow 46
  obtain ⟨t, ht1, ht2, ht3, ht4⟩ := stepS_ok ha.1.2.1 hq (by
    rw [show (1075 = 1000 + 75) from rfl, b75]
    rw [show (1074 = 1000 + 74) from rfl, b74, show (1046 = 1000 + 46) from rfl, b46] at hsm
    have hi' : i * (2 ^ 46 * 2 ^ 1000) ≤ 1000 * (2 ^ 46 * 2 ^ 1000) := Nat.mul_le_mul_right _ hi
    generalize 2 ^ 1000 = g at *
    generalize i * (2 ^ 46 * g) = t at *
    omega)
  refine ⟨⟨t, ht1, ht2, fun h0 => ?_⟩, ⟨b, h1⟩, ⟨h2, b, h1⟩, hc.fin1, ?_, ?_, modW_self hc⟩
  · have := Nat.pow_pos (a := 2) (n := 1043) (by omega)
    generalize 2 ^ 1043 = g at *
    omega
  · unfold fitC
    rw [hc.fit, Bool.and_true]
    unfold fitB
    rw [fval_of h1]
    exact decide_eq_true h3
  · show modW _ = stepX (upB z0) z.1
    unfold modW
    rw [fval_of h1]
    exact h5
theorem OutS.nil (ms : List (Nat × Nat)) : OutS ms 0 [] := ⟨rfl, by rw [List.take_zero]; exact SepR.nil, fun p h => (nomatch h), fun _ p h => (nomatch h)⟩
theorem OutS.snoc {ms done : List (Nat × Nat)} {i : Nat} {z0 z : Nat × Nat} (h : OutS ms i done) (hi : ms[i]? = some z0) (hs : InS i done z0 z) (hn : z ∉ done) (h0 : i + 1 < ms.length → Sml 0 z0) : OutS ms (i + 1) (done ++ [z]) := by
  refine ⟨by rw [List.length_append, h.len]; rfl, ?_, fun p hp => ?_, fun hl p hp => ?_⟩
  · rw [List.take_succ, hi]
    exact h.sep.snoc (hs.go z (.stop hn))
  · rcases List.mem_append.1 hp with hp | hp
    · exact h.can p hp
    · rw [List.mem_singleton.1 hp]; exact hs.can
  · rcases List.mem_append.1 hp with hp | hp
    · exact (h.sml (by omega) p hp).le (Nat.le_succ i)
    · rw [List.mem_singleton.1 hp]
      rcases hs.near with e | h1
      · rw [e]; exact (h0 hl).le (Nat.zero_le _)
      · exact h1
theorem up_leq {z : Nat × Nat} (h : Can z) : fcmp .leq z.1 0 = upB z := by
  obtain ⟨a, b, ha, _⟩ := h
  rw [(fcmp_val ha.1.2.1 fv_zero).2.1]
  unfold upB
  rw [fval_of ha.1.2.1]
theorem up_gtr {z : Nat × Nat} (h : Can z) : fcmp .gtr z.1 0 = !upB z := by
  obtain ⟨a, b, ha, _⟩ := h
  rw [(fcmp_val ha.1.2.1 fv_zero).2.2.1]
  unfold upB
  rw [fval_of ha.1.2.1]
  by_cases h : 0 < a
  · rw [decide_eq_true h, decide_eq_false (by omega)]; rfl
  · rw [decide_eq_false h, decide_eq_true (by omega)]; rfl
/-- The row that both sides hand back, or that a number is too great. -/
def PSep (l : List (Nat × Nat)) (ok bad : Value) (r : Value) (L' : List Own) (F' : List Fact) : Prop :=
  (l.all fitC = true ∧ ∃ u out, r = .tuple #[u, ok] ∧ IsSl u ∧ SepR (l.map modC) out ∧ (∀ p ∈ out, Can p) ∧ L' = [oRow u out] ∧ F' = []) ∨ (l.all fitC = false ∧ r = .tuple #[.slice none 0 0, bad] ∧ L' = [] ∧ F' = [])
theorem all_take {α : Type} {p : α → Bool} {l : List α} {i : Nat} {z : α} (h : (l.take i).all p = true) (hz : l[i]? = some z) (hp : p z = true) : (l.take (i + 1)).all p = true := by
  rw [List.take_succ, hz]
  simp [List.all_append, h, hp]
theorem all_not {α : Type} {p : α → Bool} {l : List α} {i : Nat} {z : α} (hz : l[i]? = some z) (hp : p z = false) : l.all p = false := by
  cases h : l.all p with
  | false => rfl
  | true => rw [List.all_eq_true] at h; rw [h z (List.mem_of_getElem? hz)] at hp; cases hp
theorem take_mid {α : Type} {a r : List α} {z : α} {i : Nat} (h : a.length = i) : (a ++ z :: r).take i = a := by
  subst h; simp
theorem get_mid {α : Type} {a r : List α} {z : α} {i : Nat} (h : a.length = i) : (a ++ z :: r)[i]? = some z := by
  subst h; simp
theorem set_mid {α : Type} {a r : List α} {z y : α} {i : Nat} (h : a.length = i) : (a ++ z :: r).set i y = a ++ y :: r := by
  subst h; simp
abbrev nRow (u : Value) (N : Nat) (l : List (Nat × Nat)) : Own := .row u 24 1 N (l.map cx)
theorem separated_spec (v : Value) (l : List (Nat × Nat)) (hl : l.length ≤ 100) (hfin : ∀ z ∈ l, Fin2 z) (hsm : ∀ i z, l[i]? = some z → i + 1 < l.length → fitC z = true → Sml 0 (modC z)) :
    Spec Tryz.prog 80 [v] [] [fList 1 rCx v l] (PSep l (.int .i64 0) (.int .i64 3)) := by
  refine enter Tryz.func80 Tryz.ntmps80 rfl (by kernel_rfl) zCon rfl fun G => ?_
  refine c_isList (v := v) zMem fun hsv => ?_
  refine c_lenList zMem fun hlen => ?_
  all_goals ((try refine zR3 ?_) <;> (repeat' (with_reducible first | refine And.intro ?_ ?_ | intro _)))
  rename_i v0 _
  refine c_isRow (v := v0) zHas fun hs0 _ => ?_
  refine c_while (ι := {y : Nat × Value // y.1 ≤ l.length ∧ IsSl y.2 ∧ (l.take y.1).all fitC = true}) (κ := {u : Value // IsSl u ∧ l.all fitC = true})
    (fun y => [(16, v), (17, .int .i64 (l.length : Int)), (18, .int .i64 (y.1.1 : Int)), (4, y.1.2)]) (fun y => [nRow y.1.2 y.1.1 ((l.take y.1.1).map modC)]) (fun _ => [fList 1 rCx v l]) (fun y => l.length - y.1.1)
    (fun y => [(4, y.1)]) (fun y => [nRow y.1 l.length (l.map modC)]) (fun _ => [fList 1 rCx v l]) ⟨(0, v0), Nat.zero_le _, hs0, by simp⟩ (fun _ _ s => s.startT zSub zTake zFsub) ?_ ?_
  · rintro ⟨⟨i, u⟩, hi, hsu, hall⟩
    dsimp only at hi hsu hall ⊢
    by_cases hlt : i < l.length
    · obtain ⟨z, hz⟩ : ∃ z, l[i]? = some z := ⟨_, List.getElem?_eq_getElem hlt⟩
      have hf := hfin z (List.mem_of_getElem? hz)
      have hM := makeModerate_spec z.1 z.2 hf.1 hf.2
      cases hfit : fitC z with
      | true =>
        have hm : mmV (z.1, z.2) = .tuple #[.complex .f64 (modC z).1 (modC z).2, .int .i64 0] := by unfold mmV; rw [if_pos hfit]
        rw [hm] at hM
        have htk : (l.take (i + 1)).map modC = (l.take i).map modC ++ [modC z] := by rw [List.take_succ, hz]; simp
        all_goals (((try refine zR3 ?_) <;> (repeat' (with_reducible first | refine And.intro ?_ ?_ | intro _))) <;> (repeat' ((first | ((with_reducible apply l_callP); exact rfl; exact zEvs; exact rfl; (with_reducible apply hM); (case hF => exact zFsub); (try any_goals (refine propId ?_; omega)))) <;> ((try refine zR3 ?_) <;> (repeat' (with_reducible first | refine And.intro ?_ ?_ | intro _))))))
        all_goals (first | (exfalso; omega) | skip)
        rename_i v2
        refine ends_isRowQ (v := v2) zHas fun hs2 => ?_
        exact e_againT (Lr := []) ⟨(i + 1, v2), hlt, hs2, all_take hall hz hfit⟩ (by dsimp only; omega) zSub (by dsimp only [nRow]; rw [htk, List.map_append]; exact zTake) zFsub
      | false =>
        have hm : mmV (z.1, z.2) = .tuple #[.complex .f64 0 0, .int .i64 3] := by unfold mmV; rw [if_neg (by rw [hfit]; decide)]
        rw [hm] at hM
        all_goals (((try refine zR3 ?_) <;> (repeat' (with_reducible first | refine And.intro ?_ ?_ | intro _))) <;> (repeat' ((first | ((with_reducible apply l_callP); exact rfl; exact zEvs; exact rfl; (with_reducible apply hM); (case hF => exact zFsub); (try any_goals (refine propId ?_; omega)))) <;> ((try refine zR3 ?_) <;> (repeat' (with_reducible first | refine And.intro ?_ ?_ | intro _))))))
        all_goals (first | (exfalso; omega) | skip)
        exact e_resT rfl zRes .nil fsub_nil (.inr ⟨all_not hz hfit, rfl, rfl, rfl⟩)
    · have hie : i = l.length := by omega
      subst hie
      rw [List.take_length] at hall
      all_goals ((try refine zR3 ?_) <;> (repeat' (with_reducible first | refine And.intro ?_ ?_ | intro _)))
      all_goals (first | (exfalso; omega) | skip)
      exact e_outT (Lr := []) ⟨u, hsu, hall⟩ zSub (by rw [List.take_length]; exact zTake) zFsub
  · rintro ⟨u, hsu, hall⟩
    dsimp only at hsu hall ⊢
    obtain ⟨ms, hms⟩ : ∃ ms, ms = l.map modC := ⟨_, rfl⟩
    have hlm : l.length = ms.length := by rw [hms, List.length_map]
    have hcan : ∀ (i : Nat) (z : Nat × Nat), ms[i]? = some z → Can z := fun i z hz => by
      rw [hms, List.getElem?_map, Option.map_eq_some_iff] at hz
      obtain ⟨y, hy, rfl⟩ := hz
      have hmem := List.mem_of_getElem? hy
      exact modC_can (hfin y hmem) (List.all_eq_true.1 hall y hmem)
    have hsml : ∀ (i : Nat) (z : Nat × Nat), ms[i]? = some z → i + 1 < ms.length → Sml 0 z := fun i z hz hi => by
      rw [hms, List.getElem?_map, Option.map_eq_some_iff] at hz
      obtain ⟨y, hy, rfl⟩ := hz
      exact hsm i y hy (by omega) (List.all_eq_true.1 hall y (List.mem_of_getElem? hy))
    rw [← hms, hlm]
    have hml : ms.length ≤ 100 := by omega
    have hdone : PSep l (.int .i64 0) (.int .i64 3) = PSep l (.int .i64 0) (.int .i64 3) := rfl
    all_goals ((try refine zR3 ?_) <;> (repeat' (with_reducible first | refine And.intro ?_ ?_ | intro _)))
    refine c_while (ι := {y : Nat × List (Nat × Nat) // y.1 ≤ ms.length ∧ OutS ms y.1 y.2}) (κ := {o : List (Nat × Nat) // OutS ms ms.length o})
      (fun y => [(4, u), (35, u), (36, .int .i64 (ms.length : Int)), (37, .int .i64 (y.1.1 : Int))]) (fun y => [nRow u ms.length (y.1.2 ++ ms.drop y.1.1)]) (fun _ => []) (fun y => ms.length - y.1.1)
      (fun _ => [(4, u)]) (fun o => [nRow u ms.length o.1]) (fun _ => []) ⟨(0, []), Nat.zero_le _, OutS.nil ms⟩ (fun _ _ s => s.startT zSub zTake zFsub) ?_ ?_
    · rintro ⟨⟨i, done⟩, hi, hO⟩
      dsimp only at hi hO ⊢
      by_cases hlt : i < ms.length
      · obtain ⟨z0, hz0⟩ : ∃ z, ms[i]? = some z := ⟨_, List.getElem?_eq_getElem hlt⟩
        have hdr : ms.drop i = z0 :: ms.drop (i + 1) := by
          rw [List.drop_eq_getElem_cons hlt]
          rw [List.getElem?_eq_getElem hlt] at hz0
          injection hz0 with hz0
          rw [hz0]
        rw [hdr]
        generalize htl : ms.drop (i + 1) = tl
        have hg : (done ++ z0 :: tl)[i]? = some z0 := get_mid hO.len
        have hc0 := hcan i z0 hz0
        have hup := up_leq hc0
        all_goals ((try refine zR3 ?_) <;> (repeat' (with_reducible first | refine And.intro ?_ ?_ | intro _)))
        all_goals (first | (exfalso; omega) | skip)
        rw [hup]
        refine c_while (ι := {z : Nat × Nat // InS i done z0 z}) (κ := {z : Nat × Nat // InS i done z0 z ∧ z ∉ done})
          (fun z => [(4, u), (9, .int .i64 (i : Int)), (10, cx z.1), (11, .bool (upB z0)), (35, u), (36, .int .i64 (ms.length : Int)), (37, .int .i64 (i : Int))]) (fun z => [nRow u ms.length (done ++ z.1 :: tl)]) (fun _ => []) (fun z => cnt (upB z0) done (fval z.1.1))
          (fun _ => [(4, u), (35, u), (36, .int .i64 (ms.length : Int)), (37, .int .i64 (i : Int))]) (fun z => [nRow u ms.length (done ++ z.1 :: tl)]) (fun _ => []) ⟨z0, InS.start hc0⟩ (fun _ _ s => s.startT zSub zTake zFsub) ?_ ?_
        · rintro ⟨z, hS⟩
          dsimp only at hS ⊢
          have hK := fun v' => ContainsCx_spec v' done z hS.can hO.can
          have hA := AbsF_spec z.1
          dsimp only [nRow]
          generalize hxs : (done ++ z :: tl).map cx = xs
          all_goals ((try refine zR3 ?_) <;> (repeat' (with_reducible first | refine And.intro ?_ ?_ | intro _)))
          subst hxs
          apply l_sliceLook (l := done ++ z :: tl) (j := i) (.head _)
          · rfl
          · rfl
          · exact .some rfl rfl
          · rfl
          · omega
          intro v' hv'
          rw [take_mid hO.len] at hv'
          all_goals ((try refine zR3 ?_) <;> (repeat' (with_reducible first | refine And.intro ?_ ?_ | intro _)))
          refine l_callLook rfl zEvs rfl (hK v') (lends1 hv') ?_
          all_goals ((try refine zR3 ?_) <;> (repeat' (with_reducible first | refine And.intro ?_ ?_ | intro _)))
          · have hm : z ∈ done := by assumption
            obtain ⟨⟨tt, hst, hst64, _⟩, ⟨b, hb⟩, hF1, hF2, hfit, hmw1, hmw2⟩ := hS.comp (hO.sml hlt) hm (by omega)
            obtain ⟨hS2, hcnt⟩ := hS.step (hO.sml hlt) hm (by omega)
            have hM := makeModerate_spec _ _ hF1 hF2
            have hmm : mmV (fop (bif upB z0 then .add else .sub) z.1 (stepS z.1), z.2) = .tuple #[.complex .f64 (stepC (upB z0) z).1 (stepC (upB z0) z).2, .int .i64 0] := by
              unfold mmV
              rw [if_pos hfit]
              unfold modC
              rw [hmw1, hmw2]
            rw [hmm] at hM
            have hdl : done.length = i := hO.len
            have hset : (done ++ z :: tl).set i (stepC (upB z0) z) = done ++ stepC (upB z0) z :: tl := set_mid hO.len
            have fin : ∀ (u2 : Nat), u2 = stepS z.1 → ∀ u3 : FW (fop (bif upB z0 then .add else .sub) z.1 u2), u3.1 = fop (bif upB z0 then .add else .sub) z.1 (stepS z.1) := fun u2 h2 u3 => by
              subst h2
              exact u3.val hb
            have sval : ∀ (u1 : FW (fop .mul (absB z.1) 4427038433705197568)) (u2 : FW (fop .add u1.1 4472074429978902528)), u2.1 = stepS z.1 := fun u1 u2 => by
              have e : fop .add u1.1 4472074429978902528 = stepS z.1 := by
                rw [u1.fl]
                unfold stepS fabs
                rw [fop_l]
              have h := u2.val (a := tt) (by rw [e]; exact hst)
              rw [h, e]
            generalize hS2c : stepC (upB z0) z = z2 at *
            cases hupb : upB z0 with
            | true =>
              rw [hupb] at fin hM
              simp only [cond_true] at fin hM
              all_goals (((try refine zR3 ?_) <;> (repeat' (with_reducible first | refine And.intro ?_ ?_ | intro _))) <;> (repeat' ((first | ((with_reducible apply l_callP); exact rfl; exact zEvs; exact rfl; (with_reducible apply hA); (case hF => exact zFsub); (try any_goals (refine propId ?_; omega)))) <;> ((try refine zR3 ?_) <;> (repeat' (with_reducible first | refine And.intro ?_ ?_ | intro _))))))
              rename_i u1 u2 u3
              rw [fin u2.1 (sval u1 u2) u3]
              all_goals (((try refine zR3 ?_) <;> (repeat' (with_reducible first | refine And.intro ?_ ?_ | intro _))) <;> (repeat' ((first | ((with_reducible apply l_callP); exact rfl; exact zEvs; exact rfl; (with_reducible apply hM); (case hF => exact zFsub); (try any_goals (refine propId ?_; omega)))) <;> ((try refine zR3 ?_) <;> (repeat' (with_reducible first | refine And.intro ?_ ?_ | intro _))))))
              all_goals (first | (exfalso; omega) | skip)
              refine e_againT (Lr := []) ⟨z2, hS2⟩ (by rw [hupb] at hcnt; exact hcnt) zSub ?_ zFsub
              dsimp only [nRow]
              rw [← hset]
              exact zTake
            | false =>
              rw [hupb] at fin hM
              simp only [cond_false] at fin hM
              all_goals (((try refine zR3 ?_) <;> (repeat' (with_reducible first | refine And.intro ?_ ?_ | intro _))) <;> (repeat' ((first | ((with_reducible apply l_callP); exact rfl; exact zEvs; exact rfl; (with_reducible apply hA); (case hF => exact zFsub); (try any_goals (refine propId ?_; omega)))) <;> ((try refine zR3 ?_) <;> (repeat' (with_reducible first | refine And.intro ?_ ?_ | intro _))))))
              rename_i u1 u2 u3
              rw [fin u2.1 (sval u1 u2) u3]
              all_goals (((try refine zR3 ?_) <;> (repeat' (with_reducible first | refine And.intro ?_ ?_ | intro _))) <;> (repeat' ((first | ((with_reducible apply l_callP); exact rfl; exact zEvs; exact rfl; (with_reducible apply hM); (case hF => exact zFsub); (try any_goals (refine propId ?_; omega)))) <;> ((try refine zR3 ?_) <;> (repeat' (with_reducible first | refine And.intro ?_ ?_ | intro _))))))
              all_goals (first | (exfalso; omega) | skip)
              refine e_againT (Lr := []) ⟨z2, hS2⟩ (by rw [hupb] at hcnt; exact hcnt) zSub ?_ zFsub
              dsimp only [nRow]
              rw [← hset]
              exact zTake
          · have hm : z ∉ done := by assumption
            exact e_outT (Lr := []) ⟨z, hS, hm⟩ zSub zTake zFsub
        · rintro ⟨z, hS, hn⟩
          all_goals ((try refine zR3 ?_) <;> (repeat' (with_reducible first | refine And.intro ?_ ?_ | intro _)))
          refine e_againT (Lr := []) ⟨(i + 1, done ++ [z]), hlt, hO.snoc hz0 hS hn (fun h => hsml i z0 hz0 h)⟩ (by dsimp only; omega) zSub ?_ zFsub
          dsimp only [nRow]
          rw [← htl, List.append_assoc, List.singleton_append]
          exact zTake
      · have hie : i = ms.length := by omega
        subst hie
        all_goals ((try refine zR3 ?_) <;> (repeat' (with_reducible first | refine And.intro ?_ ?_ | intro _)))
        all_goals (first | (exfalso; omega) | skip)
        refine e_outT (Lr := []) ⟨done, hO⟩ zSub ?_ zFsub
        dsimp only [nRow]
        rw [List.drop_length, List.append_nil]
        exact zTake
    · rintro ⟨o, hO⟩
      dsimp only at hO ⊢
      have hol : o.length = ms.length := hO.len
      have hsep := hO.sep
      rw [List.take_length] at hsep
      all_goals ((try refine zR3 ?_) <;> (repeat' (with_reducible first | refine And.intro ?_ ?_ | intro _)))
      refine e_resT rfl zRes (Lo := [nRow u ms.length o]) zTake fsub_nil (.inl ⟨hall, u, o, rfl, hsu, by rw [← hms]; exact hsep, hO.can, ?_, rfl⟩)
      rw [← hol]
end Go.Proofs.YtbllgmcpebifhaaGreatDoor.K
end

section
/- Separated numbers: the reference's walk; both functions. -/
namespace Go.Proofs.YtbllgmcpebifhaaGreatDoor.K
open Go Go.RowKit Ieee
set_option linter.all false
set_option maxRecDepth 10000
set_option maxHeartbeats 1000000
set_option exponentiation.threshold 3000

theorem Spec.weak {P : Program} {f : FuncId} {args : List Value} {L : List Own} {F : List Fact} {post post' : Value → List Own → List Fact → Prop} (h : Spec P f args L F post) (k : ∀ v L' F', post v L' F' → post' v L' F') : Spec P f args L F post' :=
  ⟨h.1, fun w X h1 h2 h3 => (h.2 w X h1 h2 h3).mono fun e w' ⟨v, L', F', a, b, c⟩ => ⟨v, L', F', a, k _ _ _ b, c⟩⟩
theorem scale40 : Spec Tryz.prog 72 [.float .f64 4607182418800017408, .int .i64 (-40)] [] [] (Gives (.float .f64 4427038433705197568)) :=
  (l01Scale_down 4607182418800017408 ((2 ^ 1034 : Nat) : Int) 40 (by decide) (by rw [fv_one, ← Int.natCast_mul, ← Nat.pow_add]) (by omega)).weak fun v L' F' ⟨r, h1, h2, h3, h4, h5⟩ => by
    have : r = 4427038433705197568 := fv_inj h3 fv_c40 h2 (by decide) (by have := pw_pos 1034; omega)
    subst this
    exact ⟨h1, h4, h5⟩
theorem scale30 : Spec Tryz.prog 72 [.float .f64 4607182418800017408, .int .i64 (-30)] [] [] (Gives (.float .f64 4472074429978902528)) :=
  (l01Scale_down 4607182418800017408 ((2 ^ 1044 : Nat) : Int) 30 (by decide) (by rw [fv_one, ← Int.natCast_mul, ← Nat.pow_add]) (by omega)).weak fun v L' F' ⟨r, h1, h2, h3, h4, h5⟩ => by
    have : r = 4472074429978902528 := fv_inj h3 fv_c30 h2 (by decide) (by have := pw_pos 1044; omega)
    subst this
    exact ⟨h1, h4, h5⟩
def sgW (up : Bool) : Nat := bif up then 4607182418800017408 else 13830554455654793216
theorem l10Separate_spec (v : Value) (l : List (Nat × Nat)) (hl : l.length ≤ 100) (hfin : ∀ z ∈ l, Fin2 z) (hsm : ∀ i z, l[i]? = some z → i + 1 < l.length → fitC z = true → Sml 0 (modC z)) :
    Spec Tryz.prog 82 [v] [] [fList 1 rCx v l] (PSep l (.bool true) (.bool false)) := by
  refine enter Tryz.func82 Tryz.ntmps82 rfl (by kernel_rfl) zCon rfl fun G => ?_
  refine c_isList (v := v) zMem fun hsv => ?_
  refine c_lenList zMem fun hlen => ?_
  all_goals ((try refine zR3 ?_) <;> (repeat' (with_reducible first | refine And.intro ?_ ?_ | intro _)))
  rename_i v0
  refine c_isRow (v := v0) zHas fun hs0 _ => ?_
  refine c_while (ι := {y : Nat × Value × List (Nat × Nat) // y.1 ≤ l.length ∧ IsSl y.2.1 ∧ (l.take y.1).all fitC = true ∧ OutS (l.map modC) y.1 y.2.2}) (κ := {y : Value × List (Nat × Nat) // IsSl y.1 ∧ l.all fitC = true ∧ OutS (l.map modC) l.length y.2})
    (fun y => [(0, v), (5, .int .i64 (y.1.1 : Int)), (4, y.1.2.1)]) (fun y => [oRow y.1.2.1 y.1.2.2]) (fun _ => [fList 1 rCx v l]) (fun y => l.length - y.1.1)
    (fun y => [(4, y.1.1)]) (fun y => [oRow y.1.1 y.1.2]) (fun _ => []) ⟨(0, v0, []), Nat.zero_le _, hs0, by simp, OutS.nil _⟩ (fun _ _ s => s.startT zSub zTake zFsub) ?_ ?_
  · rintro ⟨⟨i, u, done⟩, hi, hsu, hall, hO⟩
    dsimp only at hi hsu hall hO ⊢
    have hdl : done.length = i := hO.len
    by_cases hlt : i < l.length
    · obtain ⟨z, hz⟩ : ∃ z, l[i]? = some z := ⟨_, List.getElem?_eq_getElem hlt⟩
      have hf := hfin z (List.mem_of_getElem? hz)
      have hM := l10Moderate_spec z.1 z.2 hf.1 hf.2
      cases hfit : fitC z with
      | true =>
        rw [show fitC (z.1, z.2) = true from hfit] at hM
        have hc0 : Can (modC z) := modC_can hf hfit
        have hup : fcmp .gtr (modW z.1) 0 = !upB (modC z) := up_gtr hc0
        all_goals ((try refine zR3 ?_) <;> (repeat' (with_reducible first | refine And.intro ?_ ?_ | intro _)))
        all_goals (first | (exfalso; omega) | skip)
        refine l_call rfl zEvs rfl hM zTake zFsub ?_
        rintro _ L' F' ⟨p, q, rfl, h1, rfl, rfl⟩
        obtain ⟨rfl, rfl⟩ := h1 rfl
        all_goals ((try refine zR3 ?_) <;> (repeat' (with_reducible first | refine And.intro ?_ ?_ | intro _)))
        · have hb : fcmp .gtr (modW z.1) 0 = true := by assumption
          have hupb : upB (modC z) = false := by rw [hup] at hb; simpa using hb
          refine c_while (ι := {y : Nat × Nat // InS i done (modC z) y}) (κ := {y : Nat × Nat // InS i done (modC z) y ∧ y ∉ done})
            (fun y => [(0, v), (4, u), (5, .int .i64 (i : Int)), (6, cx y.1), (8, .float .f64 (sgW (upB (modC z))))]) (fun _ => [oRow u done]) (fun _ => [fList 1 rCx v l]) (fun y => cnt (upB (modC z)) done (fval y.1.1))
            (fun y => [(0, v), (4, u), (5, .int .i64 (i : Int)), (6, cx y.1)]) (fun _ => [oRow u done]) (fun _ => [fList 1 rCx v l]) ⟨modC z, InS.start hc0⟩ (fun _ _ s => s.startT (by rw [hupb]; exact zSub) zTake zFsub) ?_ ?_
          · rintro ⟨y, hS⟩
            dsimp only at hS ⊢
            have hK := l10Met_spec u done y hS.can hO.can
            obtain ⟨ya, yb, hya, hyb⟩ := hS.can
            have hA := l01Abs_spec y.1 hya.1.1
            all_goals ((try refine zR3 ?_) <;> (repeat' (with_reducible first | refine And.intro ?_ ?_ | intro _)))
            refine l_callLook rfl zEvs rfl hK (lends1 (lendCx (.head _))) ?_
            all_goals (((try refine zR3 ?_) <;> (repeat' (with_reducible first | refine And.intro ?_ ?_ | intro _))) <;> (repeat' ((first | ((with_reducible apply l_callM); exact rfl; exact rfl; exact zEvs; exact rfl; (apply hA); (case hL => exact zTake); (case hF => exact zFsub); (try any_goals (refine propId ?_; first | omega | exact zLt)); (with_reducible intro _)) | ((with_reducible apply l_callP); exact rfl; exact zEvs; exact rfl; (with_reducible apply scale40); (case hF => exact zFsub); (try any_goals (refine propId ?_; omega))) | ((with_reducible apply l_callP); exact rfl; exact zEvs; exact rfl; (with_reducible apply scale30); (case hF => exact zFsub); (try any_goals (refine propId ?_; omega)))) <;> ((try refine zR3 ?_) <;> (repeat' (with_reducible first | refine And.intro ?_ ?_ | intro _))))))
            · have hm : y ∈ done := by assumption
              obtain ⟨⟨tt, hst, hst64, htt⟩, ⟨b, hb⟩, hF1, hF2, hfit2, hmw1, hmw2⟩ := hS.comp (hO.sml (by rw [List.length_map]; exact hlt)) hm (by omega)
              obtain ⟨hS2, hcnt⟩ := hS.step (hO.sml (by rw [List.length_map]; exact hlt)) hm (by omega)
              have hM2 := l10Moderate_spec _ _ hF1 hF2
              rw [hfit2] at hM2
              rename_i u0 u1 u2 u3 u4
              have h2 : u2.1 = stepS y.1 := by
                have e : fop .add u1.1 4472074429978902528 = stepS y.1 := by
                  rw [u1.fl, u0.fl]
                  rfl
                have h := u2.val (a := tt) (by rw [e]; exact hst)
                rw [h, e]
              have h4 : u4.1 = fop (bif upB (modC z) then .add else .sub) y.1 (stepS y.1) := by
                have e : fop .add y.1 u3.1 = fop (bif upB (modC z) then .add else .sub) y.1 (stepS y.1) := by
                  rw [u3.fr, h2]
                  cases upB (modC z) with
                  | true => exact congrArg (fop .add y.1) (mul_one' hst hst64 htt)
                  | false => exact mul_mone hst hst64 htt
                have h := u4.val (a := b) (by rw [e]; exact hb)
                rw [h, e]
              rw [h4]
              refine l_call rfl zEvs rfl hM2 zTake zFsub ?_
              rintro _ L' F' ⟨p, q, rfl, h1, rfl, rfl⟩
              obtain ⟨rfl, rfl⟩ := h1 rfl
              rw [hmw1, hmw2]
              all_goals ((try refine zR3 ?_) <;> (repeat' (with_reducible first | refine And.intro ?_ ?_ | intro _)))
              exact e_againT (Lr := []) ⟨stepC (upB (modC z)) y, hS2⟩ hcnt zSub zTake zFsub
            · have hm : y ∉ done := by assumption
              exact e_outT (Lr := []) ⟨y, hS, hm⟩ zSub zTake zFsub
          · rintro ⟨y, hS, hn⟩
            dsimp only at hS ⊢
            all_goals ((try refine zR3 ?_) <;> (repeat' (with_reducible first | refine And.intro ?_ ?_ | intro _)))
            rename_i v2
            refine ends_isRowQ (v := v2) zHas fun hs2 => ?_
            exact e_againT (Lr := []) ⟨(i + 1, v2, done ++ [y]), hlt, hs2, all_take hall hz hfit, hO.snoc (by rw [List.getElem?_map, hz]; rfl) hS hn (fun h => hsm i z hz (by rwa [List.length_map] at h) hfit)⟩ (by dsimp only; omega) zSub (by dsimp only; rw [oRow_app]; exact zTake) zFsub
        · have hb : fcmp .gtr (modW z.1) 0 = false := by assumption
          have hupb : upB (modC z) = true := by rw [hup] at hb; simpa using hb
          refine c_while (ι := {y : Nat × Nat // InS i done (modC z) y}) (κ := {y : Nat × Nat // InS i done (modC z) y ∧ y ∉ done})
            (fun y => [(0, v), (4, u), (5, .int .i64 (i : Int)), (6, cx y.1), (8, .float .f64 (sgW (upB (modC z))))]) (fun _ => [oRow u done]) (fun _ => [fList 1 rCx v l]) (fun y => cnt (upB (modC z)) done (fval y.1.1))
            (fun y => [(0, v), (4, u), (5, .int .i64 (i : Int)), (6, cx y.1)]) (fun _ => [oRow u done]) (fun _ => [fList 1 rCx v l]) ⟨modC z, InS.start hc0⟩ (fun _ _ s => s.startT (by rw [hupb]; exact zSub) zTake zFsub) ?_ ?_
          · rintro ⟨y, hS⟩
            dsimp only at hS ⊢
            have hK := l10Met_spec u done y hS.can hO.can
            obtain ⟨ya, yb, hya, hyb⟩ := hS.can
            have hA := l01Abs_spec y.1 hya.1.1
            all_goals ((try refine zR3 ?_) <;> (repeat' (with_reducible first | refine And.intro ?_ ?_ | intro _)))
            refine l_callLook rfl zEvs rfl hK (lends1 (lendCx (.head _))) ?_
            all_goals (((try refine zR3 ?_) <;> (repeat' (with_reducible first | refine And.intro ?_ ?_ | intro _))) <;> (repeat' ((first | ((with_reducible apply l_callM); exact rfl; exact rfl; exact zEvs; exact rfl; (apply hA); (case hL => exact zTake); (case hF => exact zFsub); (try any_goals (refine propId ?_; first | omega | exact zLt)); (with_reducible intro _)) | ((with_reducible apply l_callP); exact rfl; exact zEvs; exact rfl; (with_reducible apply scale40); (case hF => exact zFsub); (try any_goals (refine propId ?_; omega))) | ((with_reducible apply l_callP); exact rfl; exact zEvs; exact rfl; (with_reducible apply scale30); (case hF => exact zFsub); (try any_goals (refine propId ?_; omega)))) <;> ((try refine zR3 ?_) <;> (repeat' (with_reducible first | refine And.intro ?_ ?_ | intro _))))))
            · have hm : y ∈ done := by assumption
              obtain ⟨⟨tt, hst, hst64, htt⟩, ⟨b, hb⟩, hF1, hF2, hfit2, hmw1, hmw2⟩ := hS.comp (hO.sml (by rw [List.length_map]; exact hlt)) hm (by omega)
              obtain ⟨hS2, hcnt⟩ := hS.step (hO.sml (by rw [List.length_map]; exact hlt)) hm (by omega)
              have hM2 := l10Moderate_spec _ _ hF1 hF2
              rw [hfit2] at hM2
              rename_i u0 u1 u2 u3 u4
              have h2 : u2.1 = stepS y.1 := by
                have e : fop .add u1.1 4472074429978902528 = stepS y.1 := by
                  rw [u1.fl, u0.fl]
                  rfl
                have h := u2.val (a := tt) (by rw [e]; exact hst)
                rw [h, e]
              have h4 : u4.1 = fop (bif upB (modC z) then .add else .sub) y.1 (stepS y.1) := by
                have e : fop .add y.1 u3.1 = fop (bif upB (modC z) then .add else .sub) y.1 (stepS y.1) := by
                  rw [u3.fr, h2]
                  cases upB (modC z) with
                  | true => exact congrArg (fop .add y.1) (mul_one' hst hst64 htt)
                  | false => exact mul_mone hst hst64 htt
                have h := u4.val (a := b) (by rw [e]; exact hb)
                rw [h, e]
              rw [h4]
              refine l_call rfl zEvs rfl hM2 zTake zFsub ?_
              rintro _ L' F' ⟨p, q, rfl, h1, rfl, rfl⟩
              obtain ⟨rfl, rfl⟩ := h1 rfl
              rw [hmw1, hmw2]
              all_goals ((try refine zR3 ?_) <;> (repeat' (with_reducible first | refine And.intro ?_ ?_ | intro _)))
              exact e_againT (Lr := []) ⟨stepC (upB (modC z)) y, hS2⟩ hcnt zSub zTake zFsub
            · have hm : y ∉ done := by assumption
              exact e_outT (Lr := []) ⟨y, hS, hm⟩ zSub zTake zFsub
          · rintro ⟨y, hS, hn⟩
            dsimp only at hS ⊢
            all_goals ((try refine zR3 ?_) <;> (repeat' (with_reducible first | refine And.intro ?_ ?_ | intro _)))
            rename_i v2
            refine ends_isRowQ (v := v2) zHas fun hs2 => ?_
            exact e_againT (Lr := []) ⟨(i + 1, v2, done ++ [y]), hlt, hs2, all_take hall hz hfit, hO.snoc (by rw [List.getElem?_map, hz]; rfl) hS hn (fun h => hsm i z hz (by rwa [List.length_map] at h) hfit)⟩ (by dsimp only; omega) zSub (by dsimp only; rw [oRow_app]; exact zTake) zFsub
      | false =>
        rw [show fitC (z.1, z.2) = false from hfit] at hM
        all_goals ((try refine zR3 ?_) <;> (repeat' (with_reducible first | refine And.intro ?_ ?_ | intro _)))
        all_goals (first | (exfalso; omega) | skip)
        refine l_call rfl zEvs rfl hM zTake zFsub ?_
        rintro _ L' F' ⟨p, q, rfl, h1, rfl, rfl⟩
        all_goals ((try refine zR3 ?_) <;> (repeat' (with_reducible first | refine And.intro ?_ ?_ | intro _)))
        exact e_resT rfl zRes .nil fsub_nil (.inr ⟨all_not hz hfit, rfl, rfl, rfl⟩)
    · have hie : i = l.length := by omega
      subst hie
      rw [List.take_length] at hall
      all_goals ((try refine zR3 ?_) <;> (repeat' (with_reducible first | refine And.intro ?_ ?_ | intro _)))
      all_goals (first | (exfalso; omega) | skip)
      exact e_outT (Lr := []) ⟨(u, done), hsu, hall, hO⟩ zSub zTake (fun _ h => by cases h)
  · rintro ⟨⟨u, o⟩, hsu, hall, hO⟩
    dsimp only at hsu hall hO ⊢
    have hsep := hO.sep
    rw [List.take_of_length_le (by rw [List.length_map]; exact Nat.le_refl _)] at hsep
    all_goals ((try refine zR3 ?_) <;> (repeat' (with_reducible first | refine And.intro ?_ ?_ | intro _)))
    exact e_resT rfl zRes (Lo := [oRow u o]) zTake fsub_nil (.inl ⟨hall, u, o, rfl, hsu, hsep, hO.can, rfl, rfl⟩)
end Go.Proofs.YtbllgmcpebifhaaGreatDoor.K
end

section
/- Separated numbers: the functions; the drawn lists are near the middle. -/
namespace Go.Proofs.YtbllgmcpebifhaaGreatDoor.K
open Go Go.RowKit Ieee
set_option linter.all false
set_option maxRecDepth 10000
set_option maxHeartbeats 1000000
set_option exponentiation.threshold 3000

def PSepP (l : List (Nat × Nat)) (r : Value) (L' : List Own) (F' : List Fact) : Prop :=
  (listC l = 0 ∧ PSep l (.int .i64 0) (.int .i64 3) r L' F') ∨ (listC l ≠ 0 ∧ r = .tuple #[.slice none 0 0, .int .i64 (listC l)] ∧ L' = [] ∧ F' = [])
theorem fin2_all {l : List (Nat × Nat)} (hb : ∀ z ∈ l, z.1 < 18446744073709551616 ∧ z.2 < 18446744073709551616) (hall : l.all cfin = true) : ∀ z ∈ l, Fin2 z := fun z hz => by
  have h := List.all_eq_true.1 hall z hz
  unfold cfin at h
  rw [Bool.and_eq_true] at h
  exact ⟨fin1_of (hb z hz).1 h.1, fin1_of (hb z hz).2 h.2⟩
theorem listC_cases (l : List (Nat × Nat)) : (l.all cfin = true ∧ l.length ≤ 100 ∧ listC l = 0) ∨ (l.all cfin = true ∧ 100 < l.length ∧ listC l = 2) ∨ (l.all cfin = false ∧ listC l = 1) := by
  unfold listC
  cases h : l.all cfin with
  | true =>
    rw [if_pos rfl]
    by_cases h2 : 100 < l.length
    · rw [if_pos h2]; exact .inr (.inl ⟨rfl, h2, rfl⟩)
    · rw [if_neg h2]; exact .inl ⟨rfl, by omega, rfl⟩
  | false => exact .inr (.inr ⟨rfl, rfl⟩)
theorem SeparatePoints_spec (v : Value) (l : List (Nat × Nat)) (hb : ∀ z ∈ l, z.1 < 18446744073709551616 ∧ z.2 < 18446744073709551616) (hsm : ∀ i z, l[i]? = some z → i + 1 < l.length → fitC z = true → Sml 0 (modC z)) :
    Spec Tryz.prog 15 [v] [] [fList 1 rCx v l] (PSepP l) := by
  have hA := areFinite_spec v l
  refine enter Tryz.func15 Tryz.ntmps15 rfl (by kernel_rfl) zCon rfl fun G => ?_
  refine c_isList (v := v) zMem fun hsv => ?_
  refine c_lenList zMem fun hlen => ?_
  rcases listC_cases l with ⟨h1, h2, h3⟩ | ⟨h1, h2, h3⟩ | ⟨h1, h3⟩
  · rw [h1] at hA
    have hS := separated_spec v l h2 (fin2_all hb h1) hsm
    all_goals (((try refine zR3 ?_) <;> (repeat' (with_reducible first | refine And.intro ?_ ?_ | intro _))) <;> (repeat' ((first | ((with_reducible apply l_callP); exact rfl; exact zEvs; exact rfl; (with_reducible apply hA); (case hF => exact zFsub); (try any_goals (refine propId ?_; omega)))) <;> ((try refine zR3 ?_) <;> (repeat' (with_reducible first | refine And.intro ?_ ?_ | intro _))))))
    all_goals (first | (exfalso; omega) | skip)
    refine l_call rfl zEvs rfl hS zTake zFsub ?_
    rintro _ L' F' (⟨h4, u, out, rfl, hu, h5, h6, rfl, rfl⟩ | ⟨h4, rfl, rfl, rfl⟩)
    · all_goals ((try refine zR3 ?_) <;> (repeat' (with_reducible first | refine And.intro ?_ ?_ | intro _)))
      exact e_resT rfl zRes (Lo := [oRow u out]) zTake fsub_nil (.inl ⟨h3, .inl ⟨h4, u, out, rfl, hu, h5, h6, rfl, rfl⟩⟩)
    · all_goals ((try refine zR3 ?_) <;> (repeat' (with_reducible first | refine And.intro ?_ ?_ | intro _)))
      exact e_resT rfl zRes .nil fsub_nil (.inl ⟨h3, .inr ⟨h4, rfl, rfl, rfl⟩⟩)
  · rw [h1] at hA
    all_goals (((try refine zR3 ?_) <;> (repeat' (with_reducible first | refine And.intro ?_ ?_ | intro _))) <;> (repeat' ((first | ((with_reducible apply l_callP); exact rfl; exact zEvs; exact rfl; (with_reducible apply hA); (case hF => exact zFsub); (try any_goals (refine propId ?_; omega)))) <;> ((try refine zR3 ?_) <;> (repeat' (with_reducible first | refine And.intro ?_ ?_ | intro _))))))
    all_goals (first | (exfalso; omega) | skip)
    exact e_resT rfl zRes .nil fsub_nil (.inr ⟨by rw [h3]; decide, by rw [h3]; rfl, rfl, rfl⟩)
  · rw [h1] at hA
    all_goals (((try refine zR3 ?_) <;> (repeat' (with_reducible first | refine And.intro ?_ ?_ | intro _))) <;> (repeat' ((first | ((with_reducible apply l_callP); exact rfl; exact zEvs; exact rfl; (with_reducible apply hA); (case hF => exact zFsub); (try any_goals (refine propId ?_; omega)))) <;> ((try refine zR3 ?_) <;> (repeat' (with_reducible first | refine And.intro ?_ ?_ | intro _))))))
    exact e_resT rfl zRes .nil fsub_nil (.inr ⟨by rw [h3]; decide, by rw [h3]; rfl, rfl, rfl⟩)
theorem specSeparatePoints_spec (v : Value) (l : List (Nat × Nat)) (hb : ∀ z ∈ l, z.1 < 18446744073709551616 ∧ z.2 < 18446744073709551616) (hsm : ∀ i z, l[i]? = some z → i + 1 < l.length → fitC z = true → Sml 0 (modC z)) :
    Spec Tryz.prog 16 [v] [] [fList 1 rCx v l] (PSepP l) := by
  have hA := l06List_spec v l
  refine enter Tryz.func16 Tryz.ntmps16 rfl (by kernel_rfl) zCon rfl fun G => ?_
  refine c_isList (v := v) zMem fun hsv => ?_
  refine c_lenList zMem fun hlen => ?_
  rcases listC_cases l with ⟨h1, h2, h3⟩ | ⟨h1, h2, h3⟩ | ⟨h1, h3⟩
  · rw [h3] at hA
    have hS := l10Separate_spec v l h2 (fin2_all hb h1) hsm
    all_goals (((try refine zR3 ?_) <;> (repeat' (with_reducible first | refine And.intro ?_ ?_ | intro _))) <;> (repeat' ((first | ((with_reducible apply l_callP); exact rfl; exact zEvs; exact rfl; (with_reducible apply hA); (case hF => exact zFsub); (try any_goals (refine propId ?_; omega)))) <;> ((try refine zR3 ?_) <;> (repeat' (with_reducible first | refine And.intro ?_ ?_ | intro _))))))
    refine l_call rfl zEvs rfl hS zTake zFsub ?_
    rintro _ L' F' (⟨h4, u, out, rfl, hu, h5, h6, rfl, rfl⟩ | ⟨h4, rfl, rfl, rfl⟩)
    · all_goals ((try refine zR3 ?_) <;> (repeat' (with_reducible first | refine And.intro ?_ ?_ | intro _)))
      exact e_resT rfl zRes (Lo := [oRow u out]) zTake fsub_nil (.inl ⟨h3, .inl ⟨h4, u, out, rfl, hu, h5, h6, rfl, rfl⟩⟩)
    · all_goals ((try refine zR3 ?_) <;> (repeat' (with_reducible first | refine And.intro ?_ ?_ | intro _)))
      exact e_resT rfl zRes .nil fsub_nil (.inl ⟨h3, .inr ⟨h4, rfl, rfl, rfl⟩⟩)
  · rw [h3] at hA
    all_goals (((try refine zR3 ?_) <;> (repeat' (with_reducible first | refine And.intro ?_ ?_ | intro _))) <;> (repeat' ((first | ((with_reducible apply l_callP); exact rfl; exact zEvs; exact rfl; (with_reducible apply hA); (case hF => exact zFsub); (try any_goals (refine propId ?_; omega)))) <;> ((try refine zR3 ?_) <;> (repeat' (with_reducible first | refine And.intro ?_ ?_ | intro _))))))
    exact e_resT rfl zRes .nil fsub_nil (.inr ⟨by rw [h3]; decide, by rw [h3]; rfl, rfl, rfl⟩)
  · rw [h3] at hA
    all_goals (((try refine zR3 ?_) <;> (repeat' (with_reducible first | refine And.intro ?_ ?_ | intro _))) <;> (repeat' ((first | ((with_reducible apply l_callP); exact rfl; exact zEvs; exact rfl; (with_reducible apply hA); (case hF => exact zFsub); (try any_goals (refine propId ?_; omega)))) <;> ((try refine zR3 ?_) <;> (repeat' (with_reducible first | refine And.intro ?_ ?_ | intro _))))))
    exact e_resT rfl zRes .nil fsub_nil (.inr ⟨by rw [h3]; decide, by rw [h3]; rfl, rfl, rfl⟩)
theorem nice_val (x : Int) (h0 : 0 ≤ x) (h1 : x < 9) : fv (fop .quo (floatOfInt .f64 (x - 4)) 4616189618054758400) = some ((x - 4) * (2 ^ 1072 : Nat)) := by
  have : x = 0 ∨ x = 1 ∨ x = 2 ∨ x = 3 ∨ x = 4 ∨ x = 5 ∨ x = 6 ∨ x = 7 ∨ x = 8 := by omega
  rcases this with rfl | rfl | rfl | rfl | rfl | rfl | rfl | rfl | rfl <;> decide +kernel
theorem nice_sml {z : Nat × Nat} (h : Nice z) : Sml 0 (modC z) := by
  obtain ⟨x, y, h0, h1, _, _, h2, h3, _⟩ := h
  have hv := nice_val x h0 h1
  have e : z.1 = fop .quo (floatOfInt .f64 (x - 4)) 4616189618054758400 := FW.val ⟨z.1, h2, h3⟩ hv
  rw [← e] at hv
  have hb : ((x - 4) * ((2 ^ 1072 : Nat) : Int)).natAbs ≤ 2 ^ 1074 := by
    rw [natAbs_pw, show 1074 = 2 + 1072 from rfl, Nat.pow_add]
    exact Nat.mul_le_mul_right _ (by omega)
  have hb2 : ((x - 4) * ((2 ^ 1072 : Nat) : Int)).natAbs ≤ 2 ^ 1104 := Nat.le_trans hb (Nat.pow_le_pow_right (by omega) (by omega))
  have hm : mp ((x - 4) * ((2 ^ 1072 : Nat) : Int)) = (x - 4) * ((2 ^ 1072 : Nat) : Int) := by
    have e2 : (x - 4) * ((2 ^ 1072 : Nat) : Int) = (x - 4) * ((2 ^ 58 : Nat) : Int) * ((2 ^ 1014 : Nat) : Int) := by rw [← pw_add]
    rw [e2]
    exact mp_fix _
  have hM := Mod1.of hv hb2
  unfold Sml
  show (fval (modW z.1)).natAbs ≤ _
  unfold modW
  rw [fval_of hv, fval_of hM.1.2.1, hm]
  exact Nat.le_trans hb (Nat.le_add_right _ _)
theorem pts_sml {l : List (Nat × Nat)} (h : Pts l) : ∀ i z, l[i]? = some z → i + 1 < l.length → fitC z = true → Sml 0 (modC z) := fun i z hz hi _ => by
  obtain ⟨a, c, rfl, ha, hc, hn, _⟩ := h
  rw [List.length_append] at hi
  rw [List.getElem?_append_left (by omega)] at hz
  exact nice_sml (hn z (List.mem_of_getElem? hz))
theorem pts_bound {l : List (Nat × Nat)} (h : Pts l) : (∀ z ∈ l, z.1 < 18446744073709551616 ∧ z.2 < 18446744073709551616) ∧ l.length ≤ 8 := by
  obtain ⟨a, c, rfl, ha, hc, hn, hcb⟩ := h
  refine ⟨fun z hz => ?_, by rw [List.length_append]; omega⟩
  rcases List.mem_append.1 hz with hz | hz
  · obtain ⟨x, y, _, _, _, _, _, h3, h4⟩ := hn z hz
    exact ⟨h3, by rw [h4]; exact floatOfInt_lt _⟩
  · exact hcb z hz
theorem IsModerate_spec (x y : Nat) (hx : x < 18446744073709551616) (hy : y < 18446744073709551616) : Spec Tryz.prog 13 [.complex .f64 x y] [] [fTz] (Gives (.bool (isModB x && isModB y))) := by
  have h1 := isModeratePart_spec x hx
  have h2 := isModeratePart_spec y hy
  refine enter Tryz.func13 Tryz.ntmps13 rfl (by kernel_rfl) zCon rfl fun G => ?_
  cases hb : isModB x with
  | true =>
    rw [hb] at h1
    all_goals (((try refine zR3 ?_) <;> (repeat' (with_reducible first | refine And.intro ?_ ?_ | intro _))) <;> (repeat' ((first | ((with_reducible apply l_callP); exact rfl; exact zEvs; exact rfl; (with_reducible apply h1); (case hF => exact zFsub); (try any_goals (refine propId ?_; omega))) | ((with_reducible apply l_callP); exact rfl; exact zEvs; exact rfl; (with_reducible apply h2); (case hF => exact zFsub); (try any_goals (refine propId ?_; omega)))) <;> ((try refine zR3 ?_) <;> (repeat' (with_reducible first | refine And.intro ?_ ?_ | intro _))))))
    (refine e_gives rfl zRes ?_; first | rfl | (simp [retVal, *]; done) | (simp_all [retVal]; done) | (simp only [retVal]))
  | false =>
    rw [hb] at h1
    all_goals (((try refine zR3 ?_) <;> (repeat' (with_reducible first | refine And.intro ?_ ?_ | intro _))) <;> (repeat' ((first | ((with_reducible apply l_callP); exact rfl; exact zEvs; exact rfl; (with_reducible apply h1); (case hF => exact zFsub); (try any_goals (refine propId ?_; omega))) | ((with_reducible apply l_callP); exact rfl; exact zEvs; exact rfl; (with_reducible apply h2); (case hF => exact zFsub); (try any_goals (refine propId ?_; omega)))) <;> ((try refine zR3 ?_) <;> (repeat' (with_reducible first | refine And.intro ?_ ?_ | intro _))))))
    (refine e_gives rfl zRes ?_; first | rfl | (simp [retVal, *]; done) | (simp_all [retVal]; done) | (simp only [retVal]))
end Go.Proofs.YtbllgmcpebifhaaGreatDoor.K
end
