/- The reference's reading of polynomials: parts, numbers. -/
import Derived.Test.YtbllgmcpebifhaaGreatDoorZLa

section
namespace Go.Proofs.YtbllgmcpebifhaaGreatDoor.K
open Go Go.RowKit Go.Lib
set_option linter.all false
set_option maxRecDepth 4000
set_option maxHeartbeats 1000000

theorem split_seg (c : UInt8) (t : List UInt8) (at' i : Nat) (h1 : at' ≤ i) (hi : i < t.length) (hn : c ∉ (t.drop at').take (i - at')) (hc : t[i]? = some c) : spl c (t.drop at') = ((t.drop at').take (i - at')) :: spl c (t.drop (i + 1)) := by
  have e : t.drop at' = (t.drop at').take (i - at') ++ c :: t.drop (i + 1) := by
    conv => lhs; rw [← List.take_append_drop (i - at') (t.drop at')]
    rw [List.drop_drop, show at' + (i - at') = i by omega, List.drop_eq_getElem_cons hi]
    rw [List.getElem?_eq_getElem hi] at hc
    rw [Option.some.inj hc]
  conv => lhs; rw [e]
  rw [spl_hit c _ _ hn]
theorem take_snoc (t : List UInt8) (at' i : Nat) (b : UInt8) (h1 : at' ≤ i) (hi : i < t.length) (hb : t[i]? = some b) : (t.drop at').take (i + 1 - at') = (t.drop at').take (i - at') ++ [b] := by
  have hl : i - at' < (t.drop at').length := by rw [List.length_drop]; omega
  rw [show i + 1 - at' = i - at' + 1 by omega, List.take_succ_eq_append_getElem hl]
  congr 2
  rw [List.getElem_drop]
  have : t[at' + (i - at')]? = some b := by rw [show at' + (i - at') = i by omega]; exact hb
  rw [List.getElem?_eq_getElem (by omega)] at this
  exact Option.some.inj this

/-- The parts of a text are handed back. -/
def PSpl (c : UInt8) (t : List UInt8) (r : Value) (L' : List Own) (F' : List Fact) : Prop := L' = [.row r 9 1 (spl c t).length ((spl c t).map str)] ∧ F' = []
theorem l04Split_spec (c : UInt8) (t : List UInt8) (hl : t.length ≤ 2000000) : Spec Tryz.prog 196 [.string ⟨t.toArray⟩, .int .u8 (c.toNat : Int)] [] [] (PSpl c t) := by
  refine enter Tryz.func196 Tryz.ntmps196 rfl (by kernel_rfl) zCon rfl fun G => ?_
  all_goals ((try refine zR2 ?_) <;> (repeat' (with_reducible first | refine And.intro ?_ ?_ | intro _)))
  rename_i v0
  refine c_while (ι := { p : Nat × Nat × Value × List (List UInt8) // p.2.1 ≤ p.1 ∧ p.1 ≤ t.length ∧ c ∉ (t.drop p.2.1).take (p.1 - p.2.1) ∧ spl c t = p.2.2.2 ++ spl c (t.drop p.2.1) ∧ p.2.2.2.length ≤ p.2.1 }) (κ := { p : Nat × Value × List (List UInt8) // p.1 ≤ t.length ∧ c ∉ t.drop p.1 ∧ spl c t = p.2.2 ++ spl c (t.drop p.1) ∧ p.2.2.length ≤ p.1 })
    (fun p => [(0, .string ⟨t.toArray⟩), (1, .int .u8 (c.toNat : Int)), (5, p.1.2.2.1), (6, .int .i64 (p.1.2.1 : Int)), (7, .int .i64 (p.1.1 : Int))]) (fun p => [.row p.1.2.2.1 9 1 p.1.2.2.2.length (p.1.2.2.2.map str)]) (fun _ => []) (fun p => t.length - p.1.1)
    (fun p => [(0, .string ⟨t.toArray⟩), (5, p.1.2.1), (6, .int .i64 (p.1.1 : Int))]) (fun p => [.row p.1.2.1 9 1 p.1.2.2.length (p.1.2.2.map str)]) (fun _ => []) ⟨(0, 0, v0, []), Nat.le_refl _, Nat.zero_le _, by simp, by simp, Nat.le_refl _⟩ (fun _ _ s => s.start zSub zRfl zFsub) ?_ ?_
  · rintro ⟨⟨i, at', v, out⟩, h1, h2, h3, h4, h5⟩
    dsimp only at h1 h2 h3 h4 h5 ⊢
    by_cases hi : i < t.length
    · obtain ⟨b, hb⟩ : ∃ b, t[i]? = some b := ⟨_, List.getElem?_eq_getElem hi⟩
      have hsn := take_snoc t at' i b h1 hi hb
      by_cases hbc : b = c
      · subst hbc
        have hseg := split_seg b t at' i h1 hi h3 hb
        all_goals ((try refine zR2 ?_) <;> (repeat' (with_reducible first | refine And.intro ?_ ?_ | intro _)))
        all_goals first | (exfalso; contradiction) | (exfalso; omega) | skip
        rename_i v'
        refine e_again ⟨(i + 1, i + 1, v', out ++ [(t.drop at').take (i - at')]), Nat.le_refl _, hi, by simp, ?_, by simp; omega⟩ (by dsimp only; omega) zSub (by simp) zFsub
        dsimp only
        rw [h4, hseg, List.append_assoc]; rfl
      · have hne : ¬ (b.toNat : Int) = (c.toNat : Int) := fun h => hbc (UInt8.toNat_inj.1 (by omega))
        all_goals ((try refine zR2 ?_) <;> (repeat' (with_reducible first | refine And.intro ?_ ?_ | intro _)))
        all_goals first | (exfalso; contradiction) | (exfalso; omega) | skip
        refine e_again ⟨(i + 1, at', v, out), by dsimp only; omega, hi, ?_, h4, h5⟩ (by dsimp only; omega) zSub rfl zFsub
        dsimp only
        rw [hsn]
        intro hm
        rcases List.mem_append.1 hm with h | h
        · exact h3 h
        · exact hbc (List.mem_singleton.1 h).symm
    · all_goals ((try refine zR2 ?_) <;> (repeat' (with_reducible first | refine And.intro ?_ ?_ | intro _)))
      all_goals (first | (exfalso; omega) | skip)
      refine e_out ⟨(at', v, out), by dsimp only; omega, ?_, h4, h5⟩ zSub rfl zFsub
      dsimp only
      rwa [List.take_of_length_le (by rw [List.length_drop]; omega)] at h3
  · rintro ⟨⟨at', v, out⟩, h1, h2, h3, h4⟩
    dsimp only at h1 h2 h3 h4 ⊢
    rw [spl_miss c _ h2] at h3
    all_goals ((try refine zR2 ?_) <;> (repeat' (with_reducible first | refine And.intro ?_ ?_ | intro _)))
    rename_i v'
    exact e_resT rfl zRes (.cons .head .nil) fsub_nil ⟨by rw [h3]; simp [retVal], rfl⟩
end Go.Proofs.YtbllgmcpebifhaaGreatDoor.K
end

section
/- The reference's reading of polynomials. -/
namespace Go.Proofs.YtbllgmcpebifhaaGreatDoor.K
open Go Go.RowKit Go.Lib
set_option linter.all false
set_option maxRecDepth 4000
set_option maxHeartbeats 1000000

section
variable {G : Ctx} {n : Nat} {P : Program} {ops : Array Oper} {Q : Post} {rest : List Oper} {m : Regs} {L L' : List Own} {F : List Fact} {v : Value}
theorem freeze_cx {l : List (Nat × Nat)} (F : List Fact) : ∀ w M, (∀ φ, φ ∈ F → φ.holds w M) → ∀ i x, l[i]? = some x → rCx.holds x (((l.map cx).drop (i * 1)).take 1) w M := by
  intro w M _ i x hx
  have hi := (List.getElem?_eq_some_iff.1 hx)
  show ((l.map cx).drop (i * 1)).take 1 = [cx x]
  rw [Nat.mul_one, List.drop_eq_getElem_cons (by simpa using hi.1)]
  simp [hi.2]
theorem St.freezeCx {E : TypeId} {N : Nat} {l : List (Nat × Nat)} {xs : List Value} {a : Act} {w : World} (st : St G n m L F a w) (he : Era L (.row v E 1 N xs) L') (hx : xs = l.map cx) : St G n m L' (fList 1 rCx v l :: F) a w :=
  st.freeze he (by have := (st.own.all _ he.mem : w.ownsRow 0 E 1 v N xs).1; rw [hx] at this; simpa using this.symm) (by rw [hx]; exact freeze_cx F)
theorem l_freezeCx {E : TypeId} {N : Nat} {l : List (Nat × Nat)} {xs : List Value} (he : Era L (.row v E 1 N xs) L') (hx : xs = l.map cx) (h : RunL G n P ops Q rest m L' (fList 1 rCx v l :: F)) : RunL G n P ops Q rest m L F := fun a w st => h a w (st.freezeCx he hx)
theorem c_freezeCx {c : Code} {E : TypeId} {N : Nat} {l : List (Nat × Nat)} {xs : List Value} (he : Era L (.row v E 1 N xs) L') (hx : xs = l.map cx) (h : RunC G n P c Q m L' (fList 1 rCx v l :: F)) : RunC G n P c Q m L F := fun a w st => h a w (st.freezeCx he hx)
theorem ends_freezeCx {e : Exit} {E : TypeId} {N : Nat} {l : List (Nat × Nat)} {xs : List Value} (he : Era L (.row v E 1 N xs) L') (hx : xs = l.map cx) (h : Ends G n Q e m L' (fList 1 rCx v l :: F)) : Ends G n Q e m L F := fun a w st => h a w (st.freezeCx he hx)
theorem ends_nilCx {e : Exit} (h : Ends G n Q e m L (fList 1 rCx (.slice none 0 0) [] :: F)) : Ends G n Q e m L F := fun a w st => h a w st.nilList
end

/-- The number of two texts. -/
def DblZ (t : List UInt8) (z : Nat × Nat) : Prop := ∃ a b, t = a ++ 44 :: b ∧ Dbl a z.1 ∧ Dbl b z.2
theorem DblZ.split {t : List UInt8} {z : Nat × Nat} (h : DblZ t z) : ∃ a b, spl 44 t = [a, b] ∧ Dbl a z.1 ∧ Dbl b z.2 := by
  obtain ⟨a, b, h1, h2, h3⟩ := h
  exact ⟨a, b, (spl_two 44 t a b).2 ⟨h1, h2.chars (.inl rfl), h3.chars (.inl rfl)⟩, h2, h3⟩
theorem DblZ.uniq {t : List UInt8} {z w : Nat × Nat} (h : DblZ t z) (h' : DblZ t w) : z = w := by
  obtain ⟨a, b, h1, h2, h3⟩ := h.split
  obtain ⟨a', b', h1', h2', h3'⟩ := h'.split
  rw [h1] at h1'
  injection h1' with e1 e2
  injection e2 with e2 _
  subst e1; subst e2
  exact Prod.ext (h2.uniq h2') (h3.uniq h3')
def PNum (t : List UInt8) (r : Value) (L' : List Own) (F' : List Fact) : Prop := ∃ z b, r = .tuple #[.complex .f64 z.1 z.2, .bool b] ∧ (b = true → DblZ t z) ∧ (b = false → ∀ y, ¬ DblZ t y) ∧ L' = [] ∧ F' = []
theorem l04ReadNumber_spec (t : List UInt8) (hl : t.length ≤ 2000000) : Spec Tryz.prog 197 [.string ⟨t.toArray⟩] [] [] (PNum t) := by
  refine enter Tryz.func197 Tryz.ntmps197 rfl (by kernel_rfl) zCon rfl fun G => ?_
  all_goals ((try refine zR2 ?_) <;> (repeat' (with_reducible first | refine And.intro ?_ ?_ | intro _)))
  refine l_call rfl zEvs rfl (l04Split_spec 44 t hl) zTake zFsub ?_
  rintro v L' F' ⟨rfl, rfl⟩
  refine l_isRow (v := v) (.own (.head _)) fun hsv _ => ?_
  by_cases h2 : (spl 44 t).length = 2
  · obtain ⟨a, b, hab⟩ : ∃ a b, spl 44 t = [a, b] := by
      match spl 44 t, h2 with
      | [a, b], _ => exact ⟨a, b, rfl⟩
    have hla : a.length ≤ 2000000 := by have := (spl_mem 44 t a (by rw [hab]; exact .head _)).1; omega
    have hlb : b.length ≤ 2000000 := by have := (spl_mem 44 t b (by rw [hab]; exact .tail _ (.head _))).1; omega
    have hparts := (spl_two 44 t a b).1 hab
    rw [hab]
    have hg0 : [a, b][0]? = some a := rfl
    have hg1 : [a, b][1]? = some b := rfl
    all_goals ((try refine zR2 ?_) <;> (repeat' (with_reducible first | refine And.intro ?_ ?_ | intro _)))
    all_goals first | (exfalso; contradiction) | (exfalso; simp at *; done) | skip
    refine l_call rfl zEvs rfl (l04ReadFloat_spec a hla) zTake zFsub ?_
    rintro _ L' F' ⟨x, b1, rfl, hx1, hx2, rfl, rfl⟩
    all_goals ((try refine zR2 ?_) <;> (repeat' (with_reducible first | refine And.intro ?_ ?_ | intro _)))
    refine l_call rfl zEvs rfl (l04ReadFloat_spec b hlb) zTake zFsub ?_
    rintro _ L' F' ⟨y, b2, rfl, hy1, hy2, rfl, rfl⟩
    cases b1 with
    | false =>
      all_goals ((try refine zR2 ?_) <;> (repeat' (with_reducible first | refine And.intro ?_ ?_ | intro _)))
      refine e_resT rfl zRes .nil fsub_nil ⟨(x, y), false, rfl, fun h => (by cases h), fun _ z hz => ?_, rfl, rfl⟩
      obtain ⟨a', b', h3, h4, h5⟩ := hz.split
      rw [hab] at h3
      injection h3 with e1 _
      subst e1
      exact hx2 rfl _ h4
    | true =>
      cases b2 with
      | false =>
        all_goals ((try refine zR2 ?_) <;> (repeat' (with_reducible first | refine And.intro ?_ ?_ | intro _)))
        refine e_resT rfl zRes .nil fsub_nil ⟨(x, y), false, rfl, fun h => (by cases h), fun _ z hz => ?_, rfl, rfl⟩
        obtain ⟨a', b', h3, h4, h5⟩ := hz.split
        rw [hab] at h3
        injection h3 with _ e1
        injection e1 with e1 _
        subst e1
        exact hy2 rfl _ h5
      | true =>
        all_goals ((try refine zR2 ?_) <;> (repeat' (with_reducible first | refine And.intro ?_ ?_ | intro _)))
        exact e_resT rfl zRes .nil fsub_nil ⟨(x, y), true, rfl, fun _ => ⟨a, b, hparts.1, hx1 rfl, hy1 rfl⟩, fun h => (by cases h), rfl, rfl⟩
  · all_goals ((try refine zR2 ?_) <;> (repeat' (with_reducible first | refine And.intro ?_ ?_ | intro _)))
    all_goals (first | (exfalso; omega) | skip)
    refine e_resT rfl zRes .nil fsub_nil ⟨(0, 0), false, rfl, fun h => (by cases h), fun _ z hz => ?_, rfl, rfl⟩
    obtain ⟨a', b', h3, _⟩ := hz.split
    rw [h3] at h2
    exact h2 rfl

/-- Numbers of the first words. -/
def All2 (ws : List (List UInt8)) (zs : List (Nat × Nat)) : Prop := ∀ (k : Nat) (w : List UInt8) (z : Nat × Nat), ws[k]? = some w → zs[k]? = some z → DblZ w z
theorem All2.snoc {ws : List (List UInt8)} {zs : List (Nat × Nat)} (h : All2 ws zs) {w : List UInt8} {z : Nat × Nat} (hw : ws[zs.length]? = some w) (hz : DblZ w z) : All2 ws (zs ++ [z]) := by
  intro k w' z' h1 h2
  rcases Nat.lt_trichotomy k zs.length with hk | rfl | hk
  · rw [List.getElem?_append_left hk] at h2; exact h k w' z' h1 h2
  · rw [List.getElem?_append_right (Nat.le_refl _), Nat.sub_self] at h2
    rw [hw] at h1
    cases h1
    cases h2
    exact hz
  · rw [List.getElem?_eq_none (by simp; omega)] at h2; cases h2
/-- What l04Read hands back. -/
def PRds (t : List UInt8) (r : Value) (L' : List Own) (F' : List Fact) : Prop := ∃ v b zs, r = .tuple #[v, .bool b] ∧ L' = [] ∧ F' = [fList 1 rCx v zs] ∧
  ((b = true ∧ zs.length = min (spl 59 t).length 14 ∧ All2 (spl 59 t) zs) ∨ (b = false ∧ zs = [] ∧ ∃ (k : Nat) (w : List UInt8), k < 14 ∧ (spl 59 t)[k]? = some w ∧ ∀ z, ¬ DblZ w z))
theorem l04Read_spec (t : List UInt8) (hl : t.length ≤ 2000000) : Spec Tryz.prog 124 [.string ⟨t.toArray⟩] [] [] (PRds t) := by
  refine enter Tryz.func124 Tryz.ntmps124 rfl (by kernel_rfl) zCon rfl fun G => ?_
  all_goals ((try refine zR2 ?_) <;> (repeat' (with_reducible first | refine And.intro ?_ ?_ | intro _)))
  refine l_call rfl zEvs rfl (l04Split_spec 59 t hl) zTake zFsub ?_
  rintro v L' F' ⟨rfl, rfl⟩
  refine l_isRow (v := v) (.own (.head _)) fun hsv _ => ?_
  have hwl := spl_len 59 t
  have hwm := spl_mem 59 t
  obtain ⟨ws, hws⟩ : ∃ ws, ws = spl 59 t := ⟨_, rfl⟩
  rw [← hws] at hwl hwm ⊢
  all_goals ((try refine zR2 ?_) <;> (repeat' (with_reducible first | refine And.intro ?_ ?_ | intro _)))
  rename_i v0
  refine c_while (ι := { p : Value × List (Nat × Nat) // p.2.length ≤ ws.length ∧ p.2.length ≤ 14 ∧ All2 ws p.2 }) (κ := { p : Value × List (Nat × Nat) // p.2.length = min ws.length 14 ∧ All2 ws p.2 })
    (fun p => [(4, v), (5, p.1.1), (6, .int .i64 (p.1.2.length : Int))]) (fun p => [.row p.1.1 24 1 p.1.2.length (p.1.2.map cx), .row v 9 1 ws.length (ws.map str)]) (fun _ => []) (fun p => 14 - p.1.2.length)
    (fun p => [(5, p.1.1)]) (fun p => [.row p.1.1 24 1 p.1.2.length (p.1.2.map cx)]) (fun _ => []) ⟨(v0, []), Nat.zero_le _, Nat.zero_le _, fun k w z _ h => by simp at h⟩ (fun _ _ s => s.start zSub zRfl zFsub) ?_ ?_
  · rintro ⟨⟨u, zs⟩, h1, h2, h3⟩
    dsimp only at h1 h2 h3 ⊢
    by_cases hi : zs.length < ws.length ∧ zs.length ≤ 13
    · obtain ⟨w, hw⟩ : ∃ w, ws[zs.length]? = some w := ⟨_, List.getElem?_eq_getElem hi.1⟩
      have hwlen : w.length ≤ 2000000 := by have := (hwm w (List.mem_of_getElem? hw)).1; omega
      clear hwm
      all_goals ((try refine zR2 ?_) <;> (repeat' (with_reducible first | refine And.intro ?_ ?_ | intro _)))
      all_goals (first | (exfalso; omega) | skip)
      refine l_call rfl zEvs rfl (l04ReadNumber_spec w hwlen) zTake zFsub ?_
      rintro _ L' F' ⟨z, b, rfl, hz1, hz2, rfl, rfl⟩
      cases b with
      | true =>
        all_goals ((try refine zR2 ?_) <;> (repeat' (with_reducible first | refine And.intro ?_ ?_ | intro _)))
        rename_i u'
        exact e_again ⟨(u', zs ++ [(z.1, z.2)]), by simp; omega, by simp; omega, h3.snoc hw (hz1 rfl)⟩ (by simp; omega) (by
          refine sub_cons rfl (sub_cons rfl (sub_same rfl ?_ sub_nil))
          congr 1; simp) (by simp) zFsub
      | false =>
        all_goals ((try refine zR2 ?_) <;> (repeat' (with_reducible first | refine And.intro ?_ ?_ | intro _)))
        refine ends_nilCx ?_
        exact e_resT rfl zRes .nil (fsub_cons (.head _) fsub_nil) ⟨.slice none 0 0, false, [], rfl, rfl, rfl, .inr ⟨rfl, rfl, zs.length, w, by omega, by rw [← hws]; exact hw, hz2 rfl⟩⟩
    · all_goals ((try refine zR2 ?_) <;> (repeat' (with_reducible first | refine And.intro ?_ ?_ | intro _)))
      all_goals (first | (exfalso; omega) | skip)
      all_goals (
        refine ends_take (L' := [.row u 24 1 zs.length (zs.map cx)]) zTake ?_
        exact e_out ⟨(u, zs), by dsimp only; omega, h3⟩ zSub rfl zFsub)
  · rintro ⟨⟨u, zs⟩, h1, h2⟩
    dsimp only at h1 h2 ⊢
    all_goals ((try refine zR2 ?_) <;> (repeat' (with_reducible first | refine And.intro ?_ ?_ | intro _)))
    refine ends_freezeCx .head rfl ?_
    refine e_resT rfl zRes .nil (fsub_cons (.head _) fsub_nil) ⟨u, true, zs, rfl, rfl, rfl, .inl ⟨rfl, by rw [← hws]; exact h1, by rw [← hws]; exact h2⟩⟩
end Go.Proofs.YtbllgmcpebifhaaGreatDoor.K
end

section
/- The reference's ParsePolynomial. -/
namespace Go.Proofs.YtbllgmcpebifhaaGreatDoor.K
open Go Go.RowKit Go.Lib
set_option linter.all false
set_option maxRecDepth 4000
set_option maxHeartbeats 1000000

/-- Both parts are finite. -/
def FinZ (z : Nat × Nat) (a : Int × Int) : Prop := fv z.1 = some a.1 ∧ fv z.2 = some a.2
theorem l01Finite_fin (z : Nat × Nat) (a : Int × Int) (h : FinZ z a) : Spec Tryz.prog 75 [.complex .f64 z.1 z.2] [] [] (Gives (.bool true)) := by
  refine enter Tryz.func75 Tryz.ntmps75 rfl (by kernel_rfl) zCon rfl fun G => ?_
  have h1 := l01Real_fin z.1 a.1 h.1
  have h2 := l01Real_fin z.2 a.2 h.2
  all_goals (((try refine zR2 ?_) <;> (repeat' (with_reducible first | refine And.intro ?_ ?_ | intro _))) <;> (repeat' ((first | ((with_reducible apply l_callP); exact rfl; exact zEvs; exact rfl; (with_reducible apply h1); (case hF => exact zFsub); (try any_goals (refine propId ?_; omega))) | ((with_reducible apply l_callP); exact rfl; exact zEvs; exact rfl; (with_reducible apply h2); (case hF => exact zFsub); (try any_goals (refine propId ?_; omega)))) <;> ((try refine zR2 ?_) <;> (repeat' (with_reducible first | refine And.intro ?_ ?_ | intro _))))))
  (refine e_gives rfl zRes ?_; first | rfl | (simp [retVal, *]; done) | (simp_all [retVal]; done) | (simp only [retVal]))
theorem DblZ.fin {t : List UInt8} {z : Nat × Nat} (h : DblZ t z) : ∃ a, FinZ z a ∧ (z = (0, 0) ↔ a.1 = 0 ∧ a.2 = 0) := by
  obtain ⟨x, y, _, ⟨_, v, e, a, h1, h2, h3, h4⟩, ⟨_, w, f, b, h5, h6, h7, h8⟩⟩ := h
  refine ⟨(a, b), ⟨h2, h6⟩, fun h => ?_, fun ⟨ha, hb⟩ => ?_⟩
  · rw [h] at h2 h6
    exact ⟨by have := h2.symm.trans fv_zero; simpa using this, by have := h6.symm.trans fv_zero; simpa using this⟩
  · dsimp only at ha hb
    subst ha; subst hb
    exact Prod.ext (h4 h3.zero') (h8 h7.zero')
/-- Lists that are polynomials, of numbers that are finite and have one zero. -/
def FinL (zs : List (Nat × Nat)) : Prop := ∀ z ∈ zs, ∃ a, FinZ z a ∧ (z = (0, 0) ↔ a.1 = 0 ∧ a.2 = 0)
def IsPol (zs : List (Nat × Nat)) : Prop := 2 ≤ zs.length ∧ zs.length ≤ 13 ∧ zs.getLast? ≠ some (0, 0)
instance (zs : List (Nat × Nat)) : Decidable (IsPol zs) := by unfold IsPol; infer_instance
theorem last_get {α : Type} (l : List α) (h : 0 < l.length) : ∃ x, l.getLast? = some x ∧ l[l.length - 1]? = some x ∧ x ∈ l := by
  refine ⟨l[l.length - 1], ?_, List.getElem?_eq_getElem (by omega), List.getElem_mem _⟩
  rw [List.getLast?_eq_getElem?, List.getElem?_eq_getElem (by omega)]
theorem l04Is_spec (v : Value) (zs : List (Nat × Nat)) (hf : FinL zs) : Spec Tryz.prog 125 [v] [] [fList 1 rCx v zs] (Gives (.bool (decide (IsPol zs)))) := by
  refine enter Tryz.func125 Tryz.ntmps125 rfl (by kernel_rfl) zCon rfl fun G => ?_
  refine c_isList (v := v) zMem fun hsv => ?_
  refine c_lenList zMem fun hlen => ?_
  by_cases hl : 2 ≤ zs.length ∧ zs.length ≤ 13
  · obtain ⟨z, hz1, hz2, hz3⟩ := last_get zs (by omega)
    obtain ⟨a, ha, ha0⟩ := hf z hz3
    all_goals ((try refine zR2 ?_) <;> (repeat' (with_reducible first | refine And.intro ?_ ?_ | intro _)))
    all_goals (first | (exfalso; omega) | skip)
    refine c_while (ι := { i : Nat // i ≤ zs.length }) (κ := Unit) (fun i => [(0, v), (3, .int .i64 (zs.length : Int)), (4, .int .i64 (i.1 : Int))]) (fun _ => []) (fun _ => [fList 1 rCx v zs]) (fun i => zs.length - i.1)
      (fun _ => [(0, v), (3, .int .i64 (zs.length : Int))]) (fun _ => []) (fun _ => [fList 1 rCx v zs]) ⟨0, Nat.zero_le _⟩ (fun _ _ s => s.start zSub zRfl zFsub) ?_ ?_
    · rintro ⟨i, hi⟩
      dsimp only at hi ⊢
      by_cases hi' : i < zs.length
      · obtain ⟨w, hw⟩ : ∃ w, zs[i]? = some w := ⟨_, List.getElem?_eq_getElem hi'⟩
        obtain ⟨b, hb, _⟩ := hf w (List.mem_of_getElem? hw)
        have hF := l01Finite_fin w b hb
        all_goals (((try refine zR2 ?_) <;> (repeat' (with_reducible first | refine And.intro ?_ ?_ | intro _))) <;> (repeat' ((first | ((with_reducible apply l_callP); exact rfl; exact zEvs; exact rfl; (with_reducible apply hF); (case hF => exact zFsub); (try any_goals (refine propId ?_; omega)))) <;> ((try refine zR2 ?_) <;> (repeat' (with_reducible first | refine And.intro ?_ ?_ | intro _))))))
        all_goals (first | (exfalso; omega) | skip)
        exact e_again ⟨i + 1, hi'⟩ (by dsimp only; omega) zSub rfl zFsub
      · all_goals ((try refine zR2 ?_) <;> (repeat' (with_reducible first | refine And.intro ?_ ?_ | intro _)))
        all_goals (first | (exfalso; omega) | skip)
        exact e_out () zSub rfl zFsub
    · intro _
      have h1 := ha.1
      have h2 := ha.2
      all_goals ((try refine zR2 ?_) <;> (repeat' (with_reducible first | refine And.intro ?_ ?_ | intro _)))
      refine e_gives rfl zRes ?_
      simp only [retVal]
      congr 1
      have e1 : (¬ (a.1 = 0 ∧ a.2 = 0)) ↔ IsPol zs := by
        rw [← ha0]
        unfold IsPol
        rw [hz1]
        constructor
        · intro h; exact ⟨hl.1, hl.2, fun h' => h (Option.some.inj h')⟩
        · intro h h'; exact h.2.2 (by rw [h'])
      exact decide_eq_decide.2 e1
  · all_goals ((try refine zR2 ?_) <;> (repeat' (with_reducible first | refine And.intro ?_ ?_ | intro _)))
    all_goals (first | (exfalso; omega) | skip)
    all_goals (
      refine e_gives rfl zRes ?_
      simp only [retVal]
      congr 1
      exact (decide_eq_false (fun h => hl ⟨h.1, h.2.1⟩)).symm)

/-- The polynomial of a text. -/
def PPol (t : List UInt8) (zs : List (Nat × Nat)) : Prop := zs.length = (spl 59 t).length ∧ All2 (spl 59 t) zs ∧ IsPol zs
theorem All2.uniq {ws : List (List UInt8)} {zs ys : List (Nat × Nat)} (h : All2 ws zs) (h' : All2 ws ys) (h1 : zs.length = ws.length) (h2 : ys.length = ws.length) : zs = ys := by
  apply List.ext_getElem?
  intro k
  by_cases hk : k < ws.length
  · have e1 := List.getElem?_eq_getElem (l := zs) (by omega : k < zs.length)
    have e2 := List.getElem?_eq_getElem (l := ys) (by omega : k < ys.length)
    have e3 := List.getElem?_eq_getElem hk
    rw [e1, e2, (h k _ _ e3 e1).uniq (h' k _ _ e3 e2)]
  · rw [List.getElem?_eq_none (by omega), List.getElem?_eq_none (by omega)]
theorem PPol.uniq {t : List UInt8} {zs ys : List (Nat × Nat)} (h : PPol t zs) (h' : PPol t ys) : zs = ys := h.2.1.uniq h'.2.1 h.1 h'.1
theorem All2.fin {ws : List (List UInt8)} {zs : List (Nat × Nat)} (h : All2 ws zs) (hl : zs.length ≤ ws.length) : FinL zs := by
  intro z hz
  obtain ⟨k, hk, rfl⟩ := List.getElem_of_mem hz
  exact (h k _ _ (List.getElem?_eq_getElem (by omega)) (List.getElem?_eq_getElem hk)).fin
/-- What the readers' first fourteen words tell. -/
theorem no_pol {t : List UInt8} {zs : List (Nat × Nat)} (h1 : zs.length = min (spl 59 t).length 14) (h2 : All2 (spl 59 t) zs) (h3 : ¬ IsPol zs) : ∀ ys, ¬ PPol t ys := by
  intro ys hy
  have h4 := hy.1
  have h5 := hy.2.2
  have h6 : zs = ys := h2.uniq hy.2.1 (by have := h5.2.1; omega) h4
  exact h3 (h6 ▸ h5)
theorem yes_pol {t : List UInt8} {zs : List (Nat × Nat)} (h1 : zs.length = min (spl 59 t).length 14) (h2 : All2 (spl 59 t) zs) (h3 : IsPol zs) : PPol t zs := ⟨by have := h3.2.1; omega, h2, h3⟩
theorem bad_pol {t : List UInt8} {k : Nat} {w : List UInt8} (hw : (spl 59 t)[k]? = some w) (h : ∀ z, ¬ DblZ w z) : ∀ ys, ¬ PPol t ys := by
  intro ys hy
  have hk := (List.getElem?_eq_some_iff.1 hw).1
  exact h _ (hy.2.1 k w _ hw (List.getElem?_eq_getElem (by rw [hy.1]; exact hk)))

/-- What the reference's ParsePolynomial hands back. -/
def PPR (t : List UInt8) (r : Value) (L' : List Own) (F' : List Fact) : Prop := ∃ v zs code, r = .tuple #[v, .int .i64 code] ∧ L' = [] ∧ F' = [fList 1 rCx v zs] ∧ ((code = 0 ∧ PPol t zs) ∨ (code = 6 ∧ zs = [] ∧ ∀ ys, ¬ PPol t ys))
theorem specPoly_spec (t : List UInt8) (hl : t.length ≤ 2000000) : Spec Tryz.prog 44 [.string ⟨t.toArray⟩] [] [] (PPR t) := by
  refine enter Tryz.func44 Tryz.ntmps44 rfl (by kernel_rfl) zCon rfl fun G => ?_
  all_goals ((try refine zR2 ?_) <;> (repeat' (with_reducible first | refine And.intro ?_ ?_ | intro _)))
  refine l_call rfl zEvs rfl (l04Read_spec t hl) zTake zFsub ?_
  rintro _ L' F' ⟨v, b, zs, rfl, rfl, rfl, hb⟩
  refine l_isList (.head _) fun hsv => ?_
  rcases hb with ⟨rfl, h1, h2⟩ | ⟨rfl, rfl, k, w, _, hk, hw⟩
  · have hI := l04Is_spec v zs (h2.fin (by omega))
    by_cases hP : IsPol zs
    · all_goals ((try refine zR2 ?_) <;> (repeat' (with_reducible first | refine And.intro ?_ ?_ | intro _)))
      refine l_callP rfl zEvs rfl hI zFsub ?_
      all_goals ((try refine zR2 ?_) <;> (repeat' (with_reducible first | refine And.intro ?_ ?_ | intro _)))
      all_goals first | (exfalso; contradiction) | skip
      exact e_resT rfl zRes .nil (fsub_cons zMem fsub_nil) ⟨v, zs, 0, rfl, rfl, rfl, .inl ⟨rfl, yes_pol h1 h2 hP⟩⟩
    · all_goals ((try refine zR2 ?_) <;> (repeat' (with_reducible first | refine And.intro ?_ ?_ | intro _)))
      refine l_callP rfl zEvs rfl hI zFsub ?_
      all_goals ((try refine zR2 ?_) <;> (repeat' (with_reducible first | refine And.intro ?_ ?_ | intro _)))
      all_goals first | (exfalso; contradiction) | skip
      refine ends_nilCx ?_
      exact e_resT rfl zRes .nil (fsub_cons (.head _) fsub_nil) ⟨.slice none 0 0, [], 6, rfl, rfl, rfl, .inr ⟨rfl, rfl, no_pol h1 h2 hP⟩⟩
  · all_goals ((try refine zR2 ?_) <;> (repeat' (with_reducible first | refine And.intro ?_ ?_ | intro _)))
    refine ends_nilCx ?_
    exact e_resT rfl zRes .nil (fsub_cons (.head _) fsub_nil) ⟨.slice none 0 0, [], 6, rfl, rfl, rfl, .inr ⟨rfl, rfl, bad_pol hk hw⟩⟩
end Go.Proofs.YtbllgmcpebifhaaGreatDoor.K
end
