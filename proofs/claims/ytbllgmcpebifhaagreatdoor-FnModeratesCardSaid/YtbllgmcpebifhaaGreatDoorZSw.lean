/- Sets: lists of lists as facts, boxes as facts, calls of closures; the program's search. -/
import Derived.Test.YtbllgmcpebifhaaGreatDoorZSt
import Derived.Test.YtbllgmcpebifhaaGreatDoorZSh
namespace Go.Proofs.YtbllgmcpebifhaaGreatDoor.K
open Go Go.RowKit Ieee
set_option linter.all false
set_option maxRecDepth 10000
set_option maxHeartbeats 1000000

section
variable {G : Ctx} {n : Nat} {P : Program} {ops : Array Oper} {Q : Post} {rest : List Oper} {m : Regs} {L L' : List Own} {F : List Fact} {d : Nat} {ty : TypeId} {pos : String} {af : Array Edge} {g : Option (Nat × Bool)} {a : Act} {w : World}
/-- What is owned and written no more is a fact. -/
theorem St.frzOwn {o : Own} (st : St G n m L F a w) (he : Era L o L') : St G n m L' (fOwn o :: F) a w := by
  have st' := st.era he
  refine st'.fact ⟨st.own.all _ he.mem, fun x hx => ⟨st.own.lt ⟨o, he.mem, hx⟩, ?_⟩⟩
  rintro (h | h)
  · exact st.xkeys h ⟨_, he.mem, hx⟩
  · exact (he.apart st.own.apart).2 x hx h
theorem l_frzOwn {o : Own} (he : Era L o L') (h : RunL G n P ops Q rest m L' (fOwn o :: F)) : RunL G n P ops Q rest m L F := fun a w st => h a w (st.frzOwn he)
/-- Values that each tell a list. -/
def fAll (vs : List Value) (ls : List (List Int)) : Fact := ⟨fun w M => vs.length = ls.length ∧ ∀ (i : Nat) v l, vs[i]? = some v → ls[i]? = some l → ListAt 1 (rInt .i64) v l w M, fun {w M w' M'} h hl => ⟨h.1, fun i v l hv hx => (h.2 i v l hv hx).stable hl⟩⟩
theorem St.allNil (st : St G n m L F a w) : St G n m L (fAll [] [] :: F) a w := st.fact ⟨rfl, fun i v l h => by simp at h⟩
theorem c_allNil {c : Code} (h : RunC G n P c Q m L (fAll [] [] :: F)) : RunC G n P c Q m L F := fun a w st => h a w st.allNil
theorem ends_allApp {e : Exit} {vs : List Value} {ls : List (List Int)} {v : Value} {l : List Int} (h1 : fAll vs ls ∈ F) (h2 : fList 1 (rInt .i64) v l ∈ F) (h : Ends G n Q e m L (fAll (vs ++ [v]) (ls ++ [l]) :: F)) : Ends G n Q e m L F := fun a w st => by
  have a1 := st.facts _ h1
  have a2 := st.facts _ h2
  refine h a w (st.fact ⟨by simp [a1.1], fun i u k hu hk => ?_⟩)
  by_cases hi : i < vs.length
  · rw [List.getElem?_append_left hi] at hu
    rw [List.getElem?_append_left (by rw [← a1.1]; exact hi)] at hk
    exact a1.2 i u k hu hk
  · have hil := (List.getElem?_eq_some_iff.1 hu).1
    rw [List.length_append, List.length_singleton] at hil
    have : i = vs.length := by omega
    subst this
    rw [List.getElem?_append_right (Nat.le_refl _), Nat.sub_self] at hu
    rw [List.getElem?_append_right (by rw [a1.1]; exact Nat.le_refl _), a1.1, Nat.sub_self] at hk
    injection hu with hu
    injection hk with hk
    subst hu; subst hk
    exact a2
/-- The row of lists is written no more. -/
theorem St.frzAll {v : Value} {E : TypeId} {N : Nat} {vs : List Value} {ls : List (List Int)} (st : St G n m L F a w) (he : Era L (.row v E 1 N vs) L') (hf : fAll vs ls ∈ F) : St G n m L' (fList 1 (rList 1 (rInt .i64)) v ls :: F) a w := by
  have hr : w.ownsRow 0 E 1 v N vs := st.own.all _ he.mem
  have hf0 := st.facts _ hf
  have hN : N = ls.length := by have := hr.1; rw [← hf0.1]; simpa using this.symm
  refine st.freeze he hN fun w' M hF i x hx => ?_
  have h1 := hF _ hf
  have hi : i < vs.length := by rw [h1.1]; exact (List.getElem?_eq_some_iff.1 hx).1
  refine ⟨vs[i], ?_, h1.2 i _ _ (List.getElem?_eq_getElem hi) hx⟩
  rw [Nat.mul_one, List.drop_eq_getElem_cons hi, List.take_succ_cons, List.take_zero]
theorem ends_frzAll {e : Exit} {v : Value} {E : TypeId} {N : Nat} {vs : List Value} {ls : List (List Int)} (he : Era L (.row v E 1 N vs) L') (hf : fAll vs ls ∈ F) (h : Ends G n Q e m L' (fList 1 (rList 1 (rInt .i64)) v ls :: F)) : Ends G n Q e m L F := fun a w st => h a w (st.frzAll he hf)
/-- A list of a list of lists. -/
theorem l_loadLL {t : TypeId} {D : TypeDesc} {x : Operand} {k : Nat} {v : Value} {l : List (List Int)} {y : List Int} [u : Und P t D] (hw : wantG ops m g = some true) (hx : ev m x = some (elemPtr v k)) (hF : fList 1 (rList 1 (rInt .i64)) v l ∈ F) (hD : aggD D = false) (hy : l[k]? = some y) (hd : Nat.blt d n = true)
    (h : ∀ c, RunL G n P ops Q rest ((d, c) :: m) L (fList 1 (rInt .i64) c y :: F)) : RunL G n P ops Q (⟨some d, .load t x, ty, pos, af, g⟩ :: rest) m L F :=
  l_loadList hw hx hF hD hy hd fun c a w st => by
    obtain ⟨v', h1, h2⟩ := st.facts _ (.head _)
    injection h1 with h1
    subst h1
    refine h c a w ((st.sub (fun _ _ h => h) fun φ hφ => .tail _ hφ).fact h2)
end
abbrev iRow (u : Value) (T : TypeId) (l : List Int) : Own := .row u T 1 l.length (l.map (Value.int .i64))
abbrev bRow (u : Value) (n : Nat) (l : List Bool) : Own := .row u 4 1 n (l.map Value.bool)
abbrev vRow (u : Value) (l : List Value) : Own := .row u 43 1 l.length l
theorem iRow_app (u : Value) (T : TypeId) (l : List Int) (x : Int) : iRow u T (l ++ [x]) = .row u T 1 (l.length + 1) ((l ++ [x]).map (Value.int .i64)) := by simp [iRow]
def qi (q : List Nat) : List Int := q.map fun (k : Nat) => (k : Int)
def qs (s : List (List Nat)) : List (List Int) := s.map qi
theorem qi_app (q : List Nat) (k : Nat) : qi (q ++ [k]) = qi q ++ [(k : Int)] := by simp [qi]
theorem qi_len (q : List Nat) : (qi q).length = q.length := by simp [qi]
theorem qi_get {q : List Nat} {i x : Nat} (h : q[i]? = some x) : (qi q)[i]? = some (x : Int) := by simp [qi, h]
/-- The sets are handed back. -/
def PCl (s : List (List Nat)) (r : Value) (L' : List Own) (F' : List Fact) : Prop := L' = [] ∧ F' = [fList 1 (rList 1 (rInt .i64)) r (qs s)]
theorem getD_of {l : List Bool} {i : Nat} {b : Bool} (h : l[i]? = some b) : l.getD i true = b := by rw [List.getD_eq_getElem?_getD, h]; rfl
theorem Inv.begin {n i : Nat} {met : List Bool} (hl : met.length = n) (hi : i < n) (hm : met.getD i true = false) : Inv n (fun x => met.getD x true) (met.set i true, [i]) := by
  refine ⟨by simp [hl], fun x hx => ?_, by simp, fun x hx => ?_, fun x hx => ?_⟩
  · rw [List.mem_singleton.1 hx]; exact hi
  · rw [List.mem_singleton.1 hx]; exact hm
  · dsimp only
    rw [getD_set _ _ _ _ (by omega)]
    by_cases hxi : x = i
    · subst hxi; simp
    · rw [if_neg hxi]; simp [hxi]
theorem vis_skip {J : Nat → Nat → Bool} {x m k : Nat} {s : List Bool × List Nat} (h : (!s.1.getD k true && J x k) = false) : vis J x (m + 1) k s = vis J x m (k + 1) s := by
  rw [vis, if_neg (by rw [h]; decide)]
theorem vis_take {J : Nat → Nat → Bool} {x m k : Nat} {s : List Bool × List Nat} (h1 : s.1.getD k true = false) (h2 : J x k = true) : vis J x (m + 1) k s = vis J x m (k + 1) (s.1.set k true, s.2 ++ [k]) := by
  rw [vis, if_pos (by rw [h1, h2]; rfl)]
theorem grp_step (q : List Nat) (k : Nat) : (List.range (k + 1)).filter (fun k => q.contains k) = (List.range k).filter (fun k => q.contains k) ++ if q.contains k then [k] else [] := by
  rw [List.range_succ, List.filter_append]
  congr 1
  simp only [List.filter_cons, List.filter_nil]
theorem grouped_spec {f : FuncId} {cap : List Value} {Fc : List Fact} (J : Nat → Nat → Bool) (n : Nat) (hn : n ≤ 100) (hJ : ∀ i k : Nat, i < n → k < n → Spec Tryz.prog f ([.int .i64 (i : Int), .int .i64 (k : Int)] ++ cap) [] Fc (PU (.bool (J i k)))) :
    Spec Tryz.prog 84 [.int .i64 (n : Int), .func (.func f) #[] cap.toArray] [] Fc (PCl (cls J n n 0 (List.replicate n false))) := by
  refine enter Tryz.func84 Tryz.ntmps84 rfl (by kernel_rfl) zCon rfl fun G => ?_
  all_goals ((try refine zR3 ?_) <;> (repeat' (with_reducible first | refine And.intro ?_ ?_ | intro _)))
  refine c_draw ([4], []) [] [1, 0, 2, 3, 4] (by kernel_rfl) (by kernel_rfl) ?_
  all_goals ((try refine zD3 ?_) <;> (repeat' (with_reducible first | refine And.intro ?_ ?_ | intro _)))
  refine a_two (k := 2) [3, 2, 4] [0, 3, 4] rfl rfl (.inl (by decide +kernel)) rfl rfl ?_ ?_
  · all_goals ((try refine zD3 ?_) <;> (repeat' (with_reducible first | refine And.intro ?_ ?_ | intro _)))
    rename_i v0 vm
    obtain ⟨S, hS⟩ : ∃ S, S = cls J n n 0 (List.replicate n false) := ⟨_, rfl⟩
    rw [← hS]
    refine c_allNil ?_
    refine c_while (ι := {y : Nat × Value × List Value × List (List Nat) × List Bool // y.1 ≤ n ∧ y.2.2.1.length ≤ y.1 ∧ y.2.2.2.2.length = n ∧ S = y.2.2.2.1 ++ cls J n (n - y.1) y.1 y.2.2.2.2}) (κ := Value × List Value)
      (fun y => [(0, .int .i64 (n : Int)), (1, .func (.func f) #[] cap.toArray), (18, .int .i64 (n : Int)), (19, .int .i64 (y.1.1 : Int)), (5, y.1.2.1), (6, vm)]) (fun y => [vRow y.1.2.1 y.1.2.2.1, bRow vm n y.1.2.2.2.2]) (fun y => fAll y.1.2.2.1 (qs y.1.2.2.2.1) :: Fc) (fun y => n - y.1.1)
      (fun y => [(5, y.1)]) (fun y => [vRow y.1 y.2]) (fun y => [fAll y.2 (qs S)]) ⟨(0, v0, [], [], List.replicate n false), Nat.zero_le _, Nat.zero_le _, by simp, by rw [hS]; simp⟩ (fun _ _ s => s.startT zSub zTake (fun _ h => h)) ?_ ?_
    · rintro ⟨⟨i, vo, vs, ls, met⟩, hi, hvl, hml, hSS⟩
      dsimp only at hi hvl hml hSS ⊢
      by_cases hlt : i < n
      · obtain ⟨b, hb⟩ : ∃ b, met[i]? = some b := ⟨_, List.getElem?_eq_getElem (by omega)⟩
        have hgb := getD_of hb
        obtain ⟨m, hm⟩ : ∃ m, n - i = m + 1 := ⟨n - i - 1, by omega⟩
        rw [hm, cls] at hSS
        cases b with
        | true =>
          rw [if_pos hgb] at hSS
          all_goals ((try refine zR3 ?_) <;> (repeat' (with_reducible first | refine And.intro ?_ ?_ | intro _)))
          all_goals (first | (exfalso; omega) | skip)
          exact e_againT (Lr := []) ⟨(i + 1, vo, vs, ls, met), hlt, by dsimp only; omega, hml, by dsimp only; rw [show n - (i + 1) = m by omega]; exact hSS⟩ (by dsimp only; omega) zSub zTake (fun _ h => h)
        | false =>
          rw [if_neg (by rw [hgb]; decide)] at hSS
          have hI0 := Inv.begin hml hlt hgb
          obtain ⟨W, hW⟩ : ∃ W, W = wlk J n n 0 (met.set i true, [i]) := ⟨_, rfl⟩
          rw [← hW] at hSS
          all_goals ((try refine zR3 ?_) <;> (repeat' (with_reducible first | refine And.intro ?_ ?_ | intro _)))
          all_goals (first | (exfalso; omega) | skip)
          rename_i vg0
          have hmem0 : ∀ y, y < n → True := fun _ _ => trivial
          refine c_while (ι := {y : Nat × Value × List Bool × List Nat // y.1 ≤ y.2.2.2.length ∧ Inv n (fun x => met.getD x true) y.2.2 ∧ wlk J n (n - y.1) y.1 y.2.2 = W}) (κ := {y : Value × List Bool × List Nat // Inv n (fun x => met.getD x true) y.2 ∧ y.2 = W})
            (fun y => [(0, .int .i64 (n : Int)), (1, .func (.func f) #[] cap.toArray), (18, .int .i64 (n : Int)), (19, .int .i64 (i : Int)), (5, vo), (6, vm), (8, y.1.2.1), (9, .int .i64 (y.1.1 : Int))]) (fun y => [vRow vo vs, bRow vm n y.1.2.2.1, iRow y.1.2.1 3 (qi y.1.2.2.2)]) (fun _ => fAll vs (qs ls) :: Fc) (fun y => n - y.1.1)
            (fun y => [(0, .int .i64 (n : Int)), (1, .func (.func f) #[] cap.toArray), (18, .int .i64 (n : Int)), (19, .int .i64 (i : Int)), (5, vo), (6, vm), (8, y.1.1)]) (fun y => [vRow vo vs, bRow vm n y.1.2.1, iRow y.1.1 3 (qi y.1.2.2)]) (fun _ => fAll vs (qs ls) :: Fc) ⟨(0, vg0, met.set i true, [i]), Nat.zero_le _, hI0, hW.symm⟩ (fun _ _ s => s.startT zSub zTake (fun _ h => h)) ?_ ?_
          · rintro ⟨⟨t, vg, met1, q⟩, ht, hI, hwk⟩
            dsimp only at ht hI hwk ⊢
            have hql : q.length ≤ n := len_le n q hI.nodup hI.lt
            have hqi := qi_len q
            have hm1 : met1.length = n := hI.len
            by_cases htq : t < q.length
            · obtain ⟨x, hx⟩ : ∃ x, q[t]? = some x := ⟨_, List.getElem?_eq_getElem htq⟩
              have hxn : x < n := hI.lt x (List.mem_of_getElem? hx)
              have hgx : q.getD t 0 = x := by rw [List.getD_eq_getElem?_getD, hx]; rfl
              obtain ⟨m2, hm2⟩ : ∃ m2, n - t = m2 + 1 := ⟨n - t - 1, by omega⟩
              rw [hm2, wlk, if_pos htq] at hwk
              dsimp only at hwk
              rw [hgx] at hwk
              obtain ⟨V, hV⟩ : ∃ V, V = vis J x n 0 (met1, q) := ⟨_, rfl⟩
              rw [← hV] at hwk
              all_goals ((try refine zR3 ?_) <;> (repeat' (with_reducible first | refine And.intro ?_ ?_ | intro _)))
              all_goals (first | (exfalso; omega) | skip)
              refine c_while (ι := {y : Nat × Value × List Bool × List Nat // y.1 ≤ n ∧ Inv n (fun x => met.getD x true) y.2.2 ∧ vis J x (n - y.1) y.1 y.2.2 = V ∧ ∃ r, y.2.2.2 = q ++ r}) (κ := {y : Value × List Bool × List Nat // Inv n (fun x => met.getD x true) y.2 ∧ y.2 = V ∧ ∃ r, y.2.2 = q ++ r})
                (fun y => [(0, .int .i64 (n : Int)), (1, .func (.func f) #[] cap.toArray), (18, .int .i64 (n : Int)), (19, .int .i64 (i : Int)), (5, vo), (6, vm), (8, y.1.2.1), (9, .int .i64 (t : Int)), (37, .int .i64 (n : Int)), (38, .int .i64 (y.1.1 : Int))]) (fun y => [vRow vo vs, bRow vm n y.1.2.2.1, iRow y.1.2.1 3 (qi y.1.2.2.2)]) (fun _ => fAll vs (qs ls) :: Fc) (fun y => n - y.1.1)
                (fun y => [(0, .int .i64 (n : Int)), (1, .func (.func f) #[] cap.toArray), (18, .int .i64 (n : Int)), (19, .int .i64 (i : Int)), (5, vo), (6, vm), (8, y.1.1), (9, .int .i64 (t : Int))]) (fun y => [vRow vo vs, bRow vm n y.1.2.1, iRow y.1.1 3 (qi y.1.2.2)]) (fun _ => fAll vs (qs ls) :: Fc) ⟨(0, vg, met1, q), Nat.zero_le _, hI, hV.symm, [], by simp⟩ (fun _ _ s => s.startT zSub zTake (fun _ h => h)) ?_ ?_
              · rintro ⟨⟨k, vg1, met2, q2⟩, hk, hI2, hvs, hr⟩
                dsimp only at hk hI2 hvs hr ⊢
                have hql2 : q2.length ≤ n := len_le n q2 hI2.nodup hI2.lt
                have hqi2 := qi_len q2
                have hml2 : met2.length = n := hI2.len
                have hx2 : (qi q2)[t]? = some (x : Int) := by
                  obtain ⟨r, rfl⟩ := hr
                  refine qi_get ?_
                  rw [List.getElem?_append_left htq]
                  exact hx
                have htq2 : t < q2.length := by
                  obtain ⟨r, rfl⟩ := hr
                  rw [List.length_append]; omega
                by_cases hkn : k < n
                · obtain ⟨b2, hb2⟩ : ∃ b, met2[k]? = some b := ⟨_, List.getElem?_eq_getElem (by omega)⟩
                  have hgb2 := getD_of hb2
                  obtain ⟨m3, hm3⟩ : ∃ m3, n - k = m3 + 1 := ⟨n - k - 1, by omega⟩
                  have hm3' : m3 = n - (k + 1) := by omega
                  rw [hm3] at hvs
                  have hJk := hJ x k hxn hkn
                  cases b2 with
                  | true =>
                    rw [vis_skip (by rw [hgb2]; rfl)] at hvs
                    all_goals ((try refine zR3 ?_) <;> (repeat' (with_reducible first | refine And.intro ?_ ?_ | intro _)))
                    all_goals (first | (exfalso; omega) | skip)
                    exact e_againT (Lr := []) ⟨(k + 1, vg1, met2, q2), hkn, hI2, by dsimp only; rw [← hm3']; exact hvs, hr⟩ (by dsimp only; omega) zSub zTake (fun _ h => h)
                  | false =>
                    all_goals ((try refine zR3 ?_) <;> (repeat' (with_reducible first | refine And.intro ?_ ?_ | intro _)))
                    all_goals (first | (exfalso; omega) | skip)
                    refine l_callMC rfl rfl zEvs rfl hJk zTake (fun _ h => .tail _ h) fun _ => ?_
                    cases hj : J x k with
                    | false =>
                      rw [vis_skip (by rw [hj, Bool.and_false])] at hvs
                      all_goals ((try refine zR3 ?_) <;> (repeat' (with_reducible first | refine And.intro ?_ ?_ | intro _)))
                      exact e_againT (Lr := []) ⟨(k + 1, vg1, met2, q2), hkn, hI2, by dsimp only; rw [← hm3']; exact hvs, hr⟩ (by dsimp only; omega) zSub zTake (fun _ h => h)
                    | true =>
                      rw [vis_take hgb2 hj] at hvs
                      all_goals ((try refine zR3 ?_) <;> (repeat' (with_reducible first | refine And.intro ?_ ?_ | intro _)))
                      rename_i vg2
                      refine e_againT (Lr := []) ⟨(k + 1, vg2, met2.set k true, q2 ++ [k]), hkn, hI2.put hkn hgb2, by dsimp only; rw [← hm3']; exact hvs, ?_⟩ (by dsimp only; omega) zSub (by dsimp only; rw [qi_app, iRow_app]; exact zTake) (fun _ h => h)
                      obtain ⟨r, rfl⟩ := hr
                      exact ⟨r ++ [k], by simp⟩
                · have hke : k = n := by omega
                  subst hke
                  rw [Nat.sub_self] at hvs
                  all_goals ((try refine zR3 ?_) <;> (repeat' (with_reducible first | refine And.intro ?_ ?_ | intro _)))
                  all_goals (first | (exfalso; omega) | skip)
                  exact e_outT (Lr := []) ⟨(vg1, met2, q2), hI2, hvs, hr⟩ zSub zTake (fun _ h => h)
              · rintro ⟨⟨vg1, met2, q2⟩, hI2, hvs, hr⟩
                dsimp only at hI2 hvs hr ⊢
                all_goals ((try refine zR3 ?_) <;> (repeat' (with_reducible first | refine And.intro ?_ ?_ | intro _)))
                refine e_againT (Lr := []) ⟨(t + 1, vg1, met2, q2), ?_, hI2, ?_⟩ (by dsimp only; omega) zSub zTake (fun _ h => h)
                · obtain ⟨r, rfl⟩ := hr
                  dsimp only
                  rw [List.length_append]; omega
                · dsimp only
                  rw [show n - (t + 1) = m2 by omega, hvs]
                  exact hwk
            · have hwe : (met1, q) = W := by
                rw [← hwk]
                cases n - t with
                | zero => rfl
                | succ m2 => rw [wlk, if_neg htq]
              all_goals ((try refine zR3 ?_) <;> (repeat' (with_reducible first | refine And.intro ?_ ?_ | intro _)))
              all_goals (first | (exfalso; omega) | skip)
              exact e_outT (Lr := []) ⟨(vg, met1, q), hI, hwe⟩ zSub zTake (fun _ h => h)
          · rintro ⟨⟨vg, met1, q⟩, hI, hwe⟩
            dsimp only at hI hwe ⊢
            rw [← hwe] at hSS
            dsimp only at hSS
            have hql : q.length ≤ n := len_le n q hI.nodup hI.lt
            have hqi := qi_len q
            have hnd := hI.nodup
            all_goals ((try refine zR3 ?_) <;> (repeat' (with_reducible first | refine And.intro ?_ ?_ | intro _)))
            rename_i vs0
            refine c_while (ι := {y : Nat × Value // y.1 ≤ n}) (κ := Value)
              (fun y => [(0, .int .i64 (n : Int)), (1, .func (.func f) #[] cap.toArray), (18, .int .i64 (n : Int)), (19, .int .i64 (i : Int)), (5, vo), (6, vm), (8, vg), (11, y.1.2), (64, .int .i64 (n : Int)), (65, .int .i64 (y.1.1 : Int))]) (fun y => [vRow vo vs, bRow vm n met1, iRow vg 3 (qi q), iRow y.1.2 2 (qi ((List.range y.1.1).filter fun k => q.contains k))]) (fun _ => fAll vs (qs ls) :: Fc) (fun y => n - y.1.1)
              (fun y => [(0, .int .i64 (n : Int)), (1, .func (.func f) #[] cap.toArray), (18, .int .i64 (n : Int)), (19, .int .i64 (i : Int)), (5, vo), (6, vm), (11, y)]) (fun y => [vRow vo vs, bRow vm n met1, iRow y 2 (qi (grp n q))]) (fun _ => fAll vs (qs ls) :: Fc) ⟨(0, vs0), Nat.zero_le _⟩ (fun _ _ s => s.startT zSub (by dsimp only; exact zTake) (fun _ h => h)) ?_ ?_
            · rintro ⟨⟨k, vset⟩, hk⟩
              dsimp only at hk ⊢
              by_cases hkn : k < n
              · obtain ⟨pre, hpre⟩ : ∃ pre, pre = (List.range k).filter fun k => q.contains k := ⟨_, rfl⟩
                have hpl : pre.length ≤ k := by rw [hpre]; exact Nat.le_trans (List.length_filter_le _ _) (by rw [List.length_range]; exact Nat.le_refl _)
                have hstep := grp_step q k
                rw [← hpre] at hstep ⊢
                all_goals ((try refine zR3 ?_) <;> (repeat' (with_reducible first | refine And.intro ?_ ?_ | intro _)))
                all_goals (first | (exfalso; omega) | skip)
                refine c_while (ι := {y : Nat × Value // y.1 ≤ q.length}) (κ := Value)
                  (fun y => [(0, .int .i64 (n : Int)), (1, .func (.func f) #[] cap.toArray), (18, .int .i64 (n : Int)), (19, .int .i64 (i : Int)), (5, vo), (6, vm), (8, vg), (64, .int .i64 (n : Int)), (65, .int .i64 (k : Int)), (12, .int .i64 (k : Int)), (68, vg), (69, .int .i64 ((qi q).length : Int)), (70, .int .i64 (y.1.1 : Int)), (11, y.1.2)]) (fun y => [vRow vo vs, bRow vm n met1, iRow vg 3 (qi q), iRow y.1.2 2 (qi (pre ++ if (q.take y.1.1).contains k then [k] else []))]) (fun _ => fAll vs (qs ls) :: Fc) (fun y => q.length - y.1.1)
                  (fun y => [(0, .int .i64 (n : Int)), (1, .func (.func f) #[] cap.toArray), (18, .int .i64 (n : Int)), (19, .int .i64 (i : Int)), (5, vo), (6, vm), (8, vg), (64, .int .i64 (n : Int)), (65, .int .i64 (k : Int)), (11, y)]) (fun y => [vRow vo vs, bRow vm n met1, iRow vg 3 (qi q), iRow y 2 (qi (pre ++ if q.contains k then [k] else []))]) (fun _ => fAll vs (qs ls) :: Fc) ⟨(0, vset), Nat.zero_le _⟩ (fun _ _ s => s.startT zSub (by dsimp only; rw [List.take_zero]; simp only [List.contains_nil, Bool.false_eq_true, if_false, List.append_nil]; exact zTake) (fun _ h => h)) ?_ ?_
                · rintro ⟨⟨j, vset⟩, hj⟩
                  dsimp only at hj ⊢
                  by_cases hjl : j < q.length
                  · obtain ⟨y, hy⟩ : ∃ y, q[j]? = some y := ⟨_, List.getElem?_eq_getElem hjl⟩
                    have hy2 := qi_get hy
                    have htk : (q.take (j + 1)).contains k = ((q.take j).contains k || decide (k = y)) := by
                      rw [List.take_succ, hy]
                      simp [Bool.eq_iff_iff]
                    by_cases hyk : y = k
                    · have hno : (q.take j).contains k = false := by
                        cases h : (q.take j).contains k with
                        | false => rfl
                        | true =>
                          exfalso
                          rw [List.contains_iff_mem] at h
                          have h1 : q = q.take j ++ q.drop j := (List.take_append_drop j q).symm
                          rw [h1, List.nodup_append] at hnd
                          refine hnd.2.2 k h k ?_ rfl
                          rw [List.drop_eq_getElem_cons hjl]
                          rw [List.getElem?_eq_getElem hjl] at hy
                          injection hy with hy
                          rw [hy, hyk]
                          exact .head _
                      rw [hno, if_neg (show ¬ (false = true) by decide), List.append_nil]
                      rw [hno, hyk, decide_eq_true rfl, Bool.false_or] at htk
                      have hpl2 := qi_len pre
                      all_goals ((try refine zR3 ?_) <;> (repeat' (with_reducible first | refine And.intro ?_ ?_ | intro _)))
                      all_goals (first | (exfalso; omega) | skip)
                      rename_i v2
                      exact e_againT (Lr := []) ⟨(j + 1, v2), hjl⟩ (by dsimp only; omega) zSub (by dsimp only; rw [htk, if_pos rfl, qi_app, iRow_app]; exact zTake) (fun _ h => h)
                    · rw [decide_eq_false (fun h => hyk h.symm), Bool.or_false] at htk
                      all_goals ((try refine zR3 ?_) <;> (repeat' (with_reducible first | refine And.intro ?_ ?_ | intro _)))
                      all_goals (first | (exfalso; omega) | skip)
                      exact e_againT (Lr := []) ⟨(j + 1, vset), hjl⟩ (by dsimp only; omega) zSub (by dsimp only; rw [htk]; exact zTake) (fun _ h => h)
                  · have hje : q.take j = q := List.take_of_length_le (by omega)
                    rw [hje]
                    all_goals ((try refine zR3 ?_) <;> (repeat' (with_reducible first | refine And.intro ?_ ?_ | intro _)))
                    all_goals (first | (exfalso; omega) | skip)
                    exact e_outT (Lr := []) vset zSub zTake (fun _ h => h)
                · intro vset
                  rw [← hstep]
                  all_goals ((try refine zR3 ?_) <;> (repeat' (with_reducible first | refine And.intro ?_ ?_ | intro _)))
                  exact e_againT (Lr := []) ⟨(k + 1, vset), hkn⟩ (by dsimp only; omega) zSub zTake (fun _ h => h)
              · have hke : k = n := by omega
                subst hke
                all_goals ((try refine zR3 ?_) <;> (repeat' (with_reducible first | refine And.intro ?_ ?_ | intro _)))
                all_goals (first | (exfalso; omega) | skip)
                exact e_outT vset zSub zTake (fun _ h => h)
            · intro vset
              refine c_freezeInts (ik := .i64) (l := qi (grp n q)) zEra rfl ?_
              refine c_isList (v := vset) zMem fun hsv => ?_
              all_goals ((try refine zR3 ?_) <;> (repeat' (with_reducible first | refine And.intro ?_ ?_ | intro _)))
              refine l_appendRow rfl rfl rfl rfl rfl rfl zMem zUpv ?_ ?_ ?_ fun v2 => ?_
              · intro y hy
                rw [List.mem_singleton.1 hy]
                exact hsv.one
              · simp only [maxLen]; omega
              · omega
              all_goals ((try refine zR3 ?_) <;> (repeat' (with_reducible first | refine And.intro ?_ ?_ | intro _)))
              refine ends_allApp (vs := vs) (ls := qs ls) (v := vset) (l := qi (grp n q)) zMem zMem ?_
              refine e_againT ⟨(i + 1, v2, vs ++ [vset], ls ++ [grp n q], met1), hlt, by dsimp only; rw [List.length_append, List.length_singleton]; omega, hI.len, ?_⟩ (by dsimp only; omega) zSub (by dsimp only; rw [show vRow v2 (vs ++ [vset]) = .row v2 43 1 (vs.length + 1) (vs ++ [vset]) by simp [vRow]]; exact zTake) ?_
              · dsimp only
                rw [show n - (i + 1) = m by omega, hSS, List.append_assoc, List.singleton_append]
              · intro φ hφ
                dsimp only at hφ
                rw [show qs (ls ++ [grp n q]) = qs ls ++ [qi (grp n q)] by simp [qs]] at hφ
                rcases List.mem_cons.1 hφ with rfl | hφ
                · exact .head _
                · exact .tail _ (.tail _ (.tail _ hφ))
      · have hie : i = n := by omega
        subst hie
        rw [Nat.sub_self, cls, List.append_nil] at hSS
        rw [← hSS]
        all_goals ((try refine zR3 ?_) <;> (repeat' (with_reducible first | refine And.intro ?_ ?_ | intro _)))
        all_goals (first | (exfalso; omega) | skip)
        exact e_outT (vo, vs) zSub zTake (fun φ h => by rw [List.mem_singleton.1 h]; exact .head _)
    · rintro ⟨vo, vs⟩
      all_goals ((try refine zR3 ?_) <;> (repeat' (with_reducible first | refine And.intro ?_ ?_ | intro _)))
      refine ends_frzAll .head (.head _) ?_
      exact e_resT rfl zRes .nil (fsub_cons (.head _) fsub_nil) ⟨rfl, rfl⟩
  · all_goals ((try refine zD3 ?_) <;> (repeat' (with_reducible first | refine And.intro ?_ ?_ | intro _)))
    rename_i vm v0
    obtain ⟨S, hS⟩ : ∃ S, S = cls J n n 0 (List.replicate n false) := ⟨_, rfl⟩
    rw [← hS]
    refine c_allNil ?_
    refine c_while (ι := {y : Nat × Value × List Value × List (List Nat) × List Bool // y.1 ≤ n ∧ y.2.2.1.length ≤ y.1 ∧ y.2.2.2.2.length = n ∧ S = y.2.2.2.1 ++ cls J n (n - y.1) y.1 y.2.2.2.2}) (κ := Value × List Value)
      (fun y => [(0, .int .i64 (n : Int)), (1, .func (.func f) #[] cap.toArray), (18, .int .i64 (n : Int)), (19, .int .i64 (y.1.1 : Int)), (5, y.1.2.1), (6, vm)]) (fun y => [vRow y.1.2.1 y.1.2.2.1, bRow vm n y.1.2.2.2.2]) (fun y => fAll y.1.2.2.1 (qs y.1.2.2.2.1) :: Fc) (fun y => n - y.1.1)
      (fun y => [(5, y.1)]) (fun y => [vRow y.1 y.2]) (fun y => [fAll y.2 (qs S)]) ⟨(0, v0, [], [], List.replicate n false), Nat.zero_le _, Nat.zero_le _, by simp, by rw [hS]; simp⟩ (fun _ _ s => s.startT zSub zTake (fun _ h => h)) ?_ ?_
    · rintro ⟨⟨i, vo, vs, ls, met⟩, hi, hvl, hml, hSS⟩
      dsimp only at hi hvl hml hSS ⊢
      by_cases hlt : i < n
      · obtain ⟨b, hb⟩ : ∃ b, met[i]? = some b := ⟨_, List.getElem?_eq_getElem (by omega)⟩
        have hgb := getD_of hb
        obtain ⟨m, hm⟩ : ∃ m, n - i = m + 1 := ⟨n - i - 1, by omega⟩
        rw [hm, cls] at hSS
        cases b with
        | true =>
          rw [if_pos hgb] at hSS
          all_goals ((try refine zR3 ?_) <;> (repeat' (with_reducible first | refine And.intro ?_ ?_ | intro _)))
          all_goals (first | (exfalso; omega) | skip)
          exact e_againT (Lr := []) ⟨(i + 1, vo, vs, ls, met), hlt, by dsimp only; omega, hml, by dsimp only; rw [show n - (i + 1) = m by omega]; exact hSS⟩ (by dsimp only; omega) zSub zTake (fun _ h => h)
        | false =>
          rw [if_neg (by rw [hgb]; decide)] at hSS
          have hI0 := Inv.begin hml hlt hgb
          obtain ⟨W, hW⟩ : ∃ W, W = wlk J n n 0 (met.set i true, [i]) := ⟨_, rfl⟩
          rw [← hW] at hSS
          all_goals ((try refine zR3 ?_) <;> (repeat' (with_reducible first | refine And.intro ?_ ?_ | intro _)))
          all_goals (first | (exfalso; omega) | skip)
          rename_i vg0
          have hmem0 : ∀ y, y < n → True := fun _ _ => trivial
          refine c_while (ι := {y : Nat × Value × List Bool × List Nat // y.1 ≤ y.2.2.2.length ∧ Inv n (fun x => met.getD x true) y.2.2 ∧ wlk J n (n - y.1) y.1 y.2.2 = W}) (κ := {y : Value × List Bool × List Nat // Inv n (fun x => met.getD x true) y.2 ∧ y.2 = W})
            (fun y => [(0, .int .i64 (n : Int)), (1, .func (.func f) #[] cap.toArray), (18, .int .i64 (n : Int)), (19, .int .i64 (i : Int)), (5, vo), (6, vm), (8, y.1.2.1), (9, .int .i64 (y.1.1 : Int))]) (fun y => [vRow vo vs, bRow vm n y.1.2.2.1, iRow y.1.2.1 3 (qi y.1.2.2.2)]) (fun _ => fAll vs (qs ls) :: Fc) (fun y => n - y.1.1)
            (fun y => [(0, .int .i64 (n : Int)), (1, .func (.func f) #[] cap.toArray), (18, .int .i64 (n : Int)), (19, .int .i64 (i : Int)), (5, vo), (6, vm), (8, y.1.1)]) (fun y => [vRow vo vs, bRow vm n y.1.2.1, iRow y.1.1 3 (qi y.1.2.2)]) (fun _ => fAll vs (qs ls) :: Fc) ⟨(0, vg0, met.set i true, [i]), Nat.zero_le _, hI0, hW.symm⟩ (fun _ _ s => s.startT zSub zTake (fun _ h => h)) ?_ ?_
          · rintro ⟨⟨t, vg, met1, q⟩, ht, hI, hwk⟩
            dsimp only at ht hI hwk ⊢
            have hql : q.length ≤ n := len_le n q hI.nodup hI.lt
            have hqi := qi_len q
            have hm1 : met1.length = n := hI.len
            by_cases htq : t < q.length
            · obtain ⟨x, hx⟩ : ∃ x, q[t]? = some x := ⟨_, List.getElem?_eq_getElem htq⟩
              have hxn : x < n := hI.lt x (List.mem_of_getElem? hx)
              have hgx : q.getD t 0 = x := by rw [List.getD_eq_getElem?_getD, hx]; rfl
              obtain ⟨m2, hm2⟩ : ∃ m2, n - t = m2 + 1 := ⟨n - t - 1, by omega⟩
              rw [hm2, wlk, if_pos htq] at hwk
              dsimp only at hwk
              rw [hgx] at hwk
              obtain ⟨V, hV⟩ : ∃ V, V = vis J x n 0 (met1, q) := ⟨_, rfl⟩
              rw [← hV] at hwk
              all_goals ((try refine zR3 ?_) <;> (repeat' (with_reducible first | refine And.intro ?_ ?_ | intro _)))
              all_goals (first | (exfalso; omega) | skip)
              refine c_while (ι := {y : Nat × Value × List Bool × List Nat // y.1 ≤ n ∧ Inv n (fun x => met.getD x true) y.2.2 ∧ vis J x (n - y.1) y.1 y.2.2 = V ∧ ∃ r, y.2.2.2 = q ++ r}) (κ := {y : Value × List Bool × List Nat // Inv n (fun x => met.getD x true) y.2 ∧ y.2 = V ∧ ∃ r, y.2.2 = q ++ r})
                (fun y => [(0, .int .i64 (n : Int)), (1, .func (.func f) #[] cap.toArray), (18, .int .i64 (n : Int)), (19, .int .i64 (i : Int)), (5, vo), (6, vm), (8, y.1.2.1), (9, .int .i64 (t : Int)), (37, .int .i64 (n : Int)), (38, .int .i64 (y.1.1 : Int))]) (fun y => [vRow vo vs, bRow vm n y.1.2.2.1, iRow y.1.2.1 3 (qi y.1.2.2.2)]) (fun _ => fAll vs (qs ls) :: Fc) (fun y => n - y.1.1)
                (fun y => [(0, .int .i64 (n : Int)), (1, .func (.func f) #[] cap.toArray), (18, .int .i64 (n : Int)), (19, .int .i64 (i : Int)), (5, vo), (6, vm), (8, y.1.1), (9, .int .i64 (t : Int))]) (fun y => [vRow vo vs, bRow vm n y.1.2.1, iRow y.1.1 3 (qi y.1.2.2)]) (fun _ => fAll vs (qs ls) :: Fc) ⟨(0, vg, met1, q), Nat.zero_le _, hI, hV.symm, [], by simp⟩ (fun _ _ s => s.startT zSub zTake (fun _ h => h)) ?_ ?_
              · rintro ⟨⟨k, vg1, met2, q2⟩, hk, hI2, hvs, hr⟩
                dsimp only at hk hI2 hvs hr ⊢
                have hql2 : q2.length ≤ n := len_le n q2 hI2.nodup hI2.lt
                have hqi2 := qi_len q2
                have hml2 : met2.length = n := hI2.len
                have hx2 : (qi q2)[t]? = some (x : Int) := by
                  obtain ⟨r, rfl⟩ := hr
                  refine qi_get ?_
                  rw [List.getElem?_append_left htq]
                  exact hx
                have htq2 : t < q2.length := by
                  obtain ⟨r, rfl⟩ := hr
                  rw [List.length_append]; omega
                by_cases hkn : k < n
                · obtain ⟨b2, hb2⟩ : ∃ b, met2[k]? = some b := ⟨_, List.getElem?_eq_getElem (by omega)⟩
                  have hgb2 := getD_of hb2
                  obtain ⟨m3, hm3⟩ : ∃ m3, n - k = m3 + 1 := ⟨n - k - 1, by omega⟩
                  have hm3' : m3 = n - (k + 1) := by omega
                  rw [hm3] at hvs
                  have hJk := hJ x k hxn hkn
                  cases b2 with
                  | true =>
                    rw [vis_skip (by rw [hgb2]; rfl)] at hvs
                    all_goals ((try refine zR3 ?_) <;> (repeat' (with_reducible first | refine And.intro ?_ ?_ | intro _)))
                    all_goals (first | (exfalso; omega) | skip)
                    exact e_againT (Lr := []) ⟨(k + 1, vg1, met2, q2), hkn, hI2, by dsimp only; rw [← hm3']; exact hvs, hr⟩ (by dsimp only; omega) zSub zTake (fun _ h => h)
                  | false =>
                    all_goals ((try refine zR3 ?_) <;> (repeat' (with_reducible first | refine And.intro ?_ ?_ | intro _)))
                    all_goals (first | (exfalso; omega) | skip)
                    refine l_callMC rfl rfl zEvs rfl hJk zTake (fun _ h => .tail _ h) fun _ => ?_
                    cases hj : J x k with
                    | false =>
                      rw [vis_skip (by rw [hj, Bool.and_false])] at hvs
                      all_goals ((try refine zR3 ?_) <;> (repeat' (with_reducible first | refine And.intro ?_ ?_ | intro _)))
                      exact e_againT (Lr := []) ⟨(k + 1, vg1, met2, q2), hkn, hI2, by dsimp only; rw [← hm3']; exact hvs, hr⟩ (by dsimp only; omega) zSub zTake (fun _ h => h)
                    | true =>
                      rw [vis_take hgb2 hj] at hvs
                      all_goals ((try refine zR3 ?_) <;> (repeat' (with_reducible first | refine And.intro ?_ ?_ | intro _)))
                      rename_i vg2
                      refine e_againT (Lr := []) ⟨(k + 1, vg2, met2.set k true, q2 ++ [k]), hkn, hI2.put hkn hgb2, by dsimp only; rw [← hm3']; exact hvs, ?_⟩ (by dsimp only; omega) zSub (by dsimp only; rw [qi_app, iRow_app]; exact zTake) (fun _ h => h)
                      obtain ⟨r, rfl⟩ := hr
                      exact ⟨r ++ [k], by simp⟩
                · have hke : k = n := by omega
                  subst hke
                  rw [Nat.sub_self] at hvs
                  all_goals ((try refine zR3 ?_) <;> (repeat' (with_reducible first | refine And.intro ?_ ?_ | intro _)))
                  all_goals (first | (exfalso; omega) | skip)
                  exact e_outT (Lr := []) ⟨(vg1, met2, q2), hI2, hvs, hr⟩ zSub zTake (fun _ h => h)
              · rintro ⟨⟨vg1, met2, q2⟩, hI2, hvs, hr⟩
                dsimp only at hI2 hvs hr ⊢
                all_goals ((try refine zR3 ?_) <;> (repeat' (with_reducible first | refine And.intro ?_ ?_ | intro _)))
                refine e_againT (Lr := []) ⟨(t + 1, vg1, met2, q2), ?_, hI2, ?_⟩ (by dsimp only; omega) zSub zTake (fun _ h => h)
                · obtain ⟨r, rfl⟩ := hr
                  dsimp only
                  rw [List.length_append]; omega
                · dsimp only
                  rw [show n - (t + 1) = m2 by omega, hvs]
                  exact hwk
            · have hwe : (met1, q) = W := by
                rw [← hwk]
                cases n - t with
                | zero => rfl
                | succ m2 => rw [wlk, if_neg htq]
              all_goals ((try refine zR3 ?_) <;> (repeat' (with_reducible first | refine And.intro ?_ ?_ | intro _)))
              all_goals (first | (exfalso; omega) | skip)
              exact e_outT (Lr := []) ⟨(vg, met1, q), hI, hwe⟩ zSub zTake (fun _ h => h)
          · rintro ⟨⟨vg, met1, q⟩, hI, hwe⟩
            dsimp only at hI hwe ⊢
            rw [← hwe] at hSS
            dsimp only at hSS
            have hql : q.length ≤ n := len_le n q hI.nodup hI.lt
            have hqi := qi_len q
            have hnd := hI.nodup
            all_goals ((try refine zR3 ?_) <;> (repeat' (with_reducible first | refine And.intro ?_ ?_ | intro _)))
            rename_i vs0
            refine c_while (ι := {y : Nat × Value // y.1 ≤ n}) (κ := Value)
              (fun y => [(0, .int .i64 (n : Int)), (1, .func (.func f) #[] cap.toArray), (18, .int .i64 (n : Int)), (19, .int .i64 (i : Int)), (5, vo), (6, vm), (8, vg), (11, y.1.2), (64, .int .i64 (n : Int)), (65, .int .i64 (y.1.1 : Int))]) (fun y => [vRow vo vs, bRow vm n met1, iRow vg 3 (qi q), iRow y.1.2 2 (qi ((List.range y.1.1).filter fun k => q.contains k))]) (fun _ => fAll vs (qs ls) :: Fc) (fun y => n - y.1.1)
              (fun y => [(0, .int .i64 (n : Int)), (1, .func (.func f) #[] cap.toArray), (18, .int .i64 (n : Int)), (19, .int .i64 (i : Int)), (5, vo), (6, vm), (11, y)]) (fun y => [vRow vo vs, bRow vm n met1, iRow y 2 (qi (grp n q))]) (fun _ => fAll vs (qs ls) :: Fc) ⟨(0, vs0), Nat.zero_le _⟩ (fun _ _ s => s.startT zSub (by dsimp only; exact zTake) (fun _ h => h)) ?_ ?_
            · rintro ⟨⟨k, vset⟩, hk⟩
              dsimp only at hk ⊢
              by_cases hkn : k < n
              · obtain ⟨pre, hpre⟩ : ∃ pre, pre = (List.range k).filter fun k => q.contains k := ⟨_, rfl⟩
                have hpl : pre.length ≤ k := by rw [hpre]; exact Nat.le_trans (List.length_filter_le _ _) (by rw [List.length_range]; exact Nat.le_refl _)
                have hstep := grp_step q k
                rw [← hpre] at hstep ⊢
                all_goals ((try refine zR3 ?_) <;> (repeat' (with_reducible first | refine And.intro ?_ ?_ | intro _)))
                all_goals (first | (exfalso; omega) | skip)
                refine c_while (ι := {y : Nat × Value // y.1 ≤ q.length}) (κ := Value)
                  (fun y => [(0, .int .i64 (n : Int)), (1, .func (.func f) #[] cap.toArray), (18, .int .i64 (n : Int)), (19, .int .i64 (i : Int)), (5, vo), (6, vm), (8, vg), (64, .int .i64 (n : Int)), (65, .int .i64 (k : Int)), (12, .int .i64 (k : Int)), (68, vg), (69, .int .i64 ((qi q).length : Int)), (70, .int .i64 (y.1.1 : Int)), (11, y.1.2)]) (fun y => [vRow vo vs, bRow vm n met1, iRow vg 3 (qi q), iRow y.1.2 2 (qi (pre ++ if (q.take y.1.1).contains k then [k] else []))]) (fun _ => fAll vs (qs ls) :: Fc) (fun y => q.length - y.1.1)
                  (fun y => [(0, .int .i64 (n : Int)), (1, .func (.func f) #[] cap.toArray), (18, .int .i64 (n : Int)), (19, .int .i64 (i : Int)), (5, vo), (6, vm), (8, vg), (64, .int .i64 (n : Int)), (65, .int .i64 (k : Int)), (11, y)]) (fun y => [vRow vo vs, bRow vm n met1, iRow vg 3 (qi q), iRow y 2 (qi (pre ++ if q.contains k then [k] else []))]) (fun _ => fAll vs (qs ls) :: Fc) ⟨(0, vset), Nat.zero_le _⟩ (fun _ _ s => s.startT zSub (by dsimp only; rw [List.take_zero]; simp only [List.contains_nil, Bool.false_eq_true, if_false, List.append_nil]; exact zTake) (fun _ h => h)) ?_ ?_
                · rintro ⟨⟨j, vset⟩, hj⟩
                  dsimp only at hj ⊢
                  by_cases hjl : j < q.length
                  · obtain ⟨y, hy⟩ : ∃ y, q[j]? = some y := ⟨_, List.getElem?_eq_getElem hjl⟩
                    have hy2 := qi_get hy
                    have htk : (q.take (j + 1)).contains k = ((q.take j).contains k || decide (k = y)) := by
                      rw [List.take_succ, hy]
                      simp [Bool.eq_iff_iff]
                    by_cases hyk : y = k
                    · have hno : (q.take j).contains k = false := by
                        cases h : (q.take j).contains k with
                        | false => rfl
                        | true =>
                          exfalso
                          rw [List.contains_iff_mem] at h
                          have h1 : q = q.take j ++ q.drop j := (List.take_append_drop j q).symm
                          rw [h1, List.nodup_append] at hnd
                          refine hnd.2.2 k h k ?_ rfl
                          rw [List.drop_eq_getElem_cons hjl]
                          rw [List.getElem?_eq_getElem hjl] at hy
                          injection hy with hy
                          rw [hy, hyk]
                          exact .head _
                      rw [hno, if_neg (show ¬ (false = true) by decide), List.append_nil]
                      rw [hno, hyk, decide_eq_true rfl, Bool.false_or] at htk
                      have hpl2 := qi_len pre
                      all_goals ((try refine zR3 ?_) <;> (repeat' (with_reducible first | refine And.intro ?_ ?_ | intro _)))
                      all_goals (first | (exfalso; omega) | skip)
                      rename_i v2
                      exact e_againT (Lr := []) ⟨(j + 1, v2), hjl⟩ (by dsimp only; omega) zSub (by dsimp only; rw [htk, if_pos rfl, qi_app, iRow_app]; exact zTake) (fun _ h => h)
                    · rw [decide_eq_false (fun h => hyk h.symm), Bool.or_false] at htk
                      all_goals ((try refine zR3 ?_) <;> (repeat' (with_reducible first | refine And.intro ?_ ?_ | intro _)))
                      all_goals (first | (exfalso; omega) | skip)
                      exact e_againT (Lr := []) ⟨(j + 1, vset), hjl⟩ (by dsimp only; omega) zSub (by dsimp only; rw [htk]; exact zTake) (fun _ h => h)
                  · have hje : q.take j = q := List.take_of_length_le (by omega)
                    rw [hje]
                    all_goals ((try refine zR3 ?_) <;> (repeat' (with_reducible first | refine And.intro ?_ ?_ | intro _)))
                    all_goals (first | (exfalso; omega) | skip)
                    exact e_outT (Lr := []) vset zSub zTake (fun _ h => h)
                · intro vset
                  rw [← hstep]
                  all_goals ((try refine zR3 ?_) <;> (repeat' (with_reducible first | refine And.intro ?_ ?_ | intro _)))
                  exact e_againT (Lr := []) ⟨(k + 1, vset), hkn⟩ (by dsimp only; omega) zSub zTake (fun _ h => h)
              · have hke : k = n := by omega
                subst hke
                all_goals ((try refine zR3 ?_) <;> (repeat' (with_reducible first | refine And.intro ?_ ?_ | intro _)))
                all_goals (first | (exfalso; omega) | skip)
                exact e_outT vset zSub zTake (fun _ h => h)
            · intro vset
              refine c_freezeInts (ik := .i64) (l := qi (grp n q)) zEra rfl ?_
              refine c_isList (v := vset) zMem fun hsv => ?_
              all_goals ((try refine zR3 ?_) <;> (repeat' (with_reducible first | refine And.intro ?_ ?_ | intro _)))
              refine l_appendRow rfl rfl rfl rfl rfl rfl zMem zUpv ?_ ?_ ?_ fun v2 => ?_
              · intro y hy
                rw [List.mem_singleton.1 hy]
                exact hsv.one
              · simp only [maxLen]; omega
              · omega
              all_goals ((try refine zR3 ?_) <;> (repeat' (with_reducible first | refine And.intro ?_ ?_ | intro _)))
              refine ends_allApp (vs := vs) (ls := qs ls) (v := vset) (l := qi (grp n q)) zMem zMem ?_
              refine e_againT ⟨(i + 1, v2, vs ++ [vset], ls ++ [grp n q], met1), hlt, by dsimp only; rw [List.length_append, List.length_singleton]; omega, hI.len, ?_⟩ (by dsimp only; omega) zSub (by dsimp only; rw [show vRow v2 (vs ++ [vset]) = .row v2 43 1 (vs.length + 1) (vs ++ [vset]) by simp [vRow]]; exact zTake) ?_
              · dsimp only
                rw [show n - (i + 1) = m by omega, hSS, List.append_assoc, List.singleton_append]
              · intro φ hφ
                dsimp only at hφ
                rw [show qs (ls ++ [grp n q]) = qs ls ++ [qi (grp n q)] by simp [qs]] at hφ
                rcases List.mem_cons.1 hφ with rfl | hφ
                · exact .head _
                · exact .tail _ (.tail _ (.tail _ hφ))
      · have hie : i = n := by omega
        subst hie
        rw [Nat.sub_self, cls, List.append_nil] at hSS
        rw [← hSS]
        all_goals ((try refine zR3 ?_) <;> (repeat' (with_reducible first | refine And.intro ?_ ?_ | intro _)))
        all_goals (first | (exfalso; omega) | skip)
        exact e_outT (vo, vs) zSub zTake (fun φ h => by rw [List.mem_singleton.1 h]; exact .head _)
    · rintro ⟨vo, vs⟩
      all_goals ((try refine zR3 ?_) <;> (repeat' (with_reducible first | refine And.intro ?_ ?_ | intro _)))
      refine ends_frzAll .head (.head _) ?_
      exact e_resT rfl zRes .nil (fsub_cons (.head _) fsub_nil) ⟨rfl, rfl⟩
end Go.Proofs.YtbllgmcpebifhaaGreatDoor.K
