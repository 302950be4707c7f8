/- The program's reading of exact numbers. -/
import Derived.Test.YtbllgmcpebifhaaGreatDoorZHb
import Derived.Test.YtbllgmcpebifhaaGreatDoorZMa
namespace Go.Proofs.YtbllgmcpebifhaaGreatDoor.K
open Go Go.RowKit Go.Lib
set_option linter.all false
set_option maxRecDepth 4000
set_option maxHeartbeats 1000000
set_option exponentiation.threshold 8000

/-- A variable's one cell holds a value of a kind. -/
def fVar (g : Nat) (p : Value → Prop) : Fact := ⟨fun w M => (∃ v, w.cell? ⟨g, 0, none⟩ = some v ∧ p v) ∧ g < w.heap.size ∧ ¬ M g, fun {w M w' M'} h hl => by
  obtain ⟨⟨v, h1, h2⟩, h3, h4⟩ := h
  refine ⟨⟨v, ?_, h2⟩, Nat.lt_of_lt_of_le h3 hl.size, fun hm => h4 (hl.mine g h3 hm)⟩
  unfold World.cell? at h1 ⊢
  rw [hl.block g h3 h4]
  exact h1⟩
def fMax : Fact := fVar 2 fun v => ∃ m, v = .int .i64 m
def isErr (v : Value) : Prop := v = .nilIface ∨ ∃ te pe, v = .iface te pe
def fSyn : Fact := fVar 3 isErr
def fRng : Fact := fVar 4 isErr

theorem Cut_spec (t : List UInt8) (hl : t.length ≤ 400000000) : Spec Tryz.prog 119 [.string ⟨t.toArray⟩, .string ⟨#[112]⟩] [] [fMax]
    (Gives (.tuple #[.string ⟨(Lib.cut t [112]).1.toArray⟩, .string ⟨(Lib.cut t [112]).2.1.toArray⟩, .bool (Lib.cut t [112]).2.2])) := by
  refine ⟨⟨Tryz.f119, _, Tryz.func119, rfl, by kernel_rfl⟩, fun w X hX hL hF => ?_⟩
  obtain ⟨⟨v, h1, m, rfl⟩, _, _⟩ := hF _ (.head _)
  refine (Tryz.strings_Cut ⟨t.toArray⟩ ⟨#[112]⟩ m w (by simp [ByteArray.size]; omega) h1).mono ?_
  rintro en w' ⟨rfl, k, rfl⟩
  exact ⟨_, [], [], rfl, ⟨rfl, rfl, rfl⟩, ⟨rfl, rfl, rfl, Nat.le_refl _, fun x hx _ => rfl⟩, ⟨fun o h => (by cases h), trivial⟩, fun x hx => (keys_nil x hx).elim, fun φ h => (by cases h)⟩

/-- What ParseInt hands back. -/
def PPI (t : List UInt8) (r : Value) (L' : List Own) (F' : List Fact) : Prop := ∃ e er, r = .tuple #[.int .i64 e, er] ∧ ((er = .nilIface ∧ Lib.parseIntB 64 t = .ok e) ∨ ((∃ T y, er = .iface T y) ∧ ∀ v, Lib.parseIntB 64 t ≠ .ok v)) ∧ L' = [] ∧ F' = []
theorem ParseInt_spec (t : List UInt8) (hl : t.length ≤ 400000000) : Spec Tryz.prog 121 [.string ⟨t.toArray⟩, .int .i64 10, .int .i64 64] [] [fSyn, fRng] (PPI t) := by
  refine ⟨⟨Tryz.f121, _, Tryz.func121, rfl, by kernel_rfl⟩, fun w X hX hL hF => ?_⟩
  obtain ⟨⟨v1, h1, hv1⟩, _, _⟩ := hF _ (.head _)
  obtain ⟨⟨v2, h2, hv2⟩, _, _⟩ := hF _ (.tail _ (.head _))
  have hsz : (⟨t.toArray⟩ : ByteArray).size ≤ 400000000 := by simp [ByteArray.size]; omega
  have fin : ∀ {e : Int} {er : Value} {w' : World}, Below w.heap.size w w' → ((er = .nilIface ∧ Lib.parseIntB 64 t = .ok e) ∨ ((∃ T y, er = .iface T y) ∧ ∀ v, Lib.parseIntB 64 t ≠ .ok v)) →
      ∃ v L' F', Ending.returned (.tuple #[.int .i64 e, er]) = .returned v ∧ PPI t v L' F' ∧ Keep (keys []) w w' ∧ Owns w' L' ∧ (∀ x, keys L' x → keys [] x ∨ w.heap.size ≤ x) ∧ (∀ φ, φ ∈ F' → φ.holds w' (fun x => X x ∨ keys L' x)) := by
    intro e er w' hb hr
    exact ⟨_, [], [], rfl, ⟨e, er, rfl, hr, rfl, rfl⟩, ⟨hb.os, hb.tape, hb.output, hb.size, fun x hx _ => hb.block x hx⟩, ⟨fun o h => (by cases h), trivial⟩, fun x hx => (keys_nil x hx).elim, fun φ h => (by cases h)⟩
  have key : ∀ r, Lib.parseIntB 64 t = r → Calls Tryz.prog 121 #[.string ⟨t.toArray⟩, .int .i64 10, .int .i64 64] w fun e w' => ∃ v L' F', e = .returned v ∧ PPI t v L' F' ∧ Keep (keys []) w w' ∧ Owns w' L' ∧ (∀ x, keys L' x → keys [] x ∨ w.heap.size ≤ x) ∧ (∀ φ, φ ∈ F' → φ.holds w' (fun x => X x ∨ keys L' x)) := by
    intro r hr
    cases r with
    | ok v =>
      refine (Tryz.strconv_ParseInt_10_at64_ok ⟨t.toArray⟩ (by omega) v (by simpa using hr) w).mono ?_
      rintro en w' ⟨rfl, hw⟩
      refine fin ?_ (.inl ⟨rfl, hr⟩)
      rcases hw with rfl | ⟨x, rfl⟩
      · exact Below.refl _ _
      · exact Lib.bytesWorld_below _ _ _
    | _ =>
      first
        | (refine (Tryz.strconv_ParseInt_10_at64_range ⟨t.toArray⟩ (by omega) (by simpa using hr) v2 w h2 hv2).mono ?_
           rintro en w' ⟨N, rfl, _, _, hb⟩
           exact fin hb (.inr ⟨⟨_, _, rfl⟩, fun v hv => by rw [hr] at hv; cases hv⟩))
        | (refine (Tryz.strconv_ParseInt_10_at64_else ⟨t.toArray⟩ (by omega) (by simp [hr]) v1 w h1 hv1).mono ?_
           rintro en w' ⟨N, rfl, _, _, hb⟩
           exact fin hb (.inr ⟨⟨_, _, rfl⟩, fun v hv => by rw [hr] at hv; cases hv⟩))
  exact key _ rfl

/-- The text of an exact number. -/
def PDy (t : List UInt8) (v e : Int) : Prop := t = itoa v ++ 112 :: itoa e ∧ IsD (sgn v) e (limbs v.natAbs)
/-- What ParseDyadic hands back. -/
def PPD (t : List UInt8) (r : Value) (L' : List Own) (F' : List Fact) : Prop :=
  (∃ v e u, PDy t v e ∧ r = .tuple #[vDyadic (sgn v) u e, .int .i64 0] ∧ L' = [.row u 2 1 (limbs v.natAbs).length ((limbs v.natAbs).map (Value.int .i64))] ∧ F' = []) ∨
  ((∀ v e, ¬ PDy t v e) ∧ r = .tuple #[vDyadic 0 (.slice none 0 0) 0, .int .i64 6] ∧ L' = [] ∧ F' = [])
theorem PDy.cut {t a b : List UInt8} {v e : Int} (h : PDy t v e) (hc : Lib.cut t [112] = (a, b, true)) (ht : t = a ++ 112 :: b) (ha : (112 : UInt8) ∉ a) : a = itoa v ∧ b = itoa e :=
  split_uniq (ht.symm.trans h.1) ha (itoa_no_p v)
theorem loan1 {L : List Own} {F : List Fact} {φ : Fact} (h : Loan L φ) : ∀ ψ, ψ ∈ [φ] → ψ ∈ F ∨ Loan L ψ := fun ψ hψ => by
  rw [List.mem_singleton.1 hψ]; exact .inr h
theorem loan2 {L : List Own} {F : List Fact} {φ χ : Fact} (h : Loan L φ) (h' : χ ∈ F) : ∀ ψ, ψ ∈ [φ, χ] → ψ ∈ F ∨ Loan L ψ := fun ψ hψ => by
  cases hψ with
  | head => exact .inr h
  | tail _ hψ => rw [List.mem_singleton.1 hψ]; exact .inl h'

/-- A call that tells nothing that lasts. -/
theorem l_call0 {G : Ctx} {n : Nat} {P : Program} {ops : Array Oper} {Q : Post} {rest : List Oper} {m : Regs} {L : List Own} {F : List Fact} {d : Nat} {ty : TypeId} {pos : String} {af : Array Edge} {g : Option (Nat × Bool)} {f : FuncId} {xs : List Operand} {vs : List Value} {ts : Array TypeId} {Lc Lr : List Own} {Fc : List Fact} {post : Value → List Own → List Fact → Prop}
    (hw : wantG ops m g = some true) (hv : Evs m xs vs) (hd : Nat.blt d n = true) (hs : Spec P f vs Lc Fc post) (hL : Take L Lc Lr) (hF : ∀ φ, φ ∈ Fc → φ ∈ F) (h0 : ∀ v L' F', post v L' F' → F' = [])
    (h : ∀ v L', post v L' [] → RunL G n P ops Q rest ((d, v) :: m) (L' ++ Lr) F) :
    RunL G n P ops Q (⟨some d, .call ⟨.value (.func f), xs.toArray, ts⟩, ty, pos, af, g⟩ :: rest) m L F :=
  l_call hw hv hd hs hL hF fun v L' F' hp => by
    have := h0 v L' F' hp
    subst this
    exact h v L' hp
theorem PPW.noF {t : List UInt8} : ∀ v L' F', PPW t v L' F' → F' = [] := by
  rintro _ _ _ (⟨_, _, _, _, _, h⟩ | ⟨_, _, _, _, _, h⟩) <;> exact h
theorem PPI.noF {t : List UInt8} : ∀ v L' F', PPI t v L' F' → F' = [] := by
  rintro _ _ _ ⟨_, _, _, _, _, h⟩; exact h
theorem PPD.noF {t : List UInt8} : ∀ v L' F', PPD t v L' F' → F' = [] := by
  rintro _ _ _ (⟨_, _, _, _, _, _, h⟩ | ⟨_, _, _, h⟩) <;> exact h

theorem ParseDyadic_spec (t : List UInt8) (hl : t.length ≤ 400000000) : Spec Tryz.prog 40 [.string ⟨t.toArray⟩] [] [fMax, fSyn, fRng, fTab] (PPD t) := by
  refine enter Tryz.func40 Tryz.ntmps40 rfl (by kernel_rfl) zCon rfl fun G => ?_
  all_goals ((try refine zR ?_) <;> (repeat' (with_reducible first | refine And.intro ?_ ?_ | intro _)))
  rename_i b2
  have hcut := Cut_spec t hl
  obtain ⟨a, b, f, hab, hcase⟩ : ∃ a b f, Lib.cut t [112] = (a, b, f) ∧ (((112 : UInt8) ∉ t ∧ a = t ∧ b = []) ∨ (t = a ++ 112 :: b ∧ (112 : UInt8) ∉ a ∧ f = true)) := by
    rcases cut_p t with ⟨h1, h2⟩ | ⟨a, b, h1, h2, h3⟩
    · exact ⟨t, [], false, h2, .inl ⟨h1, rfl, rfl⟩⟩
    · exact ⟨a, b, true, h3, .inr ⟨h1, h2, rfl⟩⟩
  rw [hab] at hcut
  dsimp only at hcut
  have hal : a.length ≤ 400000000 := by
    rcases hcase with ⟨_, rfl, _⟩ | ⟨h, _, _⟩
    · exact hl
    · have := congrArg List.length h; simp at this; omega
  have hbl : b.length ≤ 400000000 := by
    rcases hcase with ⟨_, _, rfl⟩ | ⟨h, _, _⟩
    · simp
    · have := congrArg List.length h; simp at this; omega
  have huniq : ∀ v e, PDy t v e → a = itoa v ∧ b = itoa e := by
    intro v e h
    rcases hcase with ⟨h1, _, _⟩ | ⟨h1, h2, rfl⟩
    · exact absurd (by rw [h.1]; simp) h1
    · exact h.cut hab h1 h2
  refine l_callG rfl zEvs rfl hcut (fun φ h => .inl (by rw [List.mem_singleton.1 h]; exact zMem)) ?_
  all_goals ((try refine zR ?_) <;> (repeat' (with_reducible first | refine And.intro ?_ ?_ | intro _)))
  refine l_call0 rfl zEvs rfl (ParseWhole_spec a hal) zTake zFsub PPW.noF ?_
  rintro rv L' hW
  rcases hW with ⟨hSp, h4800, u, rfl, rfl, _⟩ | ⟨hno, code, hcode, rfl, rfl, _⟩
  · refine l_isRow (v := u) (.own zMem) fun hsu _ => ?_
    all_goals ((try refine zR ?_) <;> (repeat' (with_reducible first | refine And.intro ?_ ?_ | intro _)))
    refine l_call0 rfl zEvs rfl (ParseInt_spec b hbl) zTake zFsub PPI.noF ?_
    rintro rv2 L' ⟨e, er, rfl, her, rfl, _⟩
    all_goals ((try refine zR ?_) <;> (repeat' (with_reducible first | refine And.intro ?_ ?_ | intro _)))
    have hvu := itoa_tval hSp
    obtain ⟨v, hv⟩ : ∃ v, tval a = v := ⟨_, rfl⟩
    rw [hv] at h4800 hvu ⊢
    have hveq : ∀ v' e', PDy t v' e' → v' = v ∧ Lib.parseIntB 64 b = .ok e' := by
      intro v' e' h
      obtain ⟨h1, h2⟩ := huniq v' e' h
      refine ⟨itoa_inj (by rw [← h1, hvu]), ?_⟩
      rw [h2]
      exact parse_itoa e' h.2.2.1
    rcases her with ⟨rfl, hok⟩ | ⟨⟨T, y, rfl⟩, hnok⟩
    · have heq : ∀ v' e', PDy t v' e' → v' = v ∧ e' = e := by
        intro v' e' h
        obtain ⟨h1, h2⟩ := hveq v' e' h
        rw [hok] at h2
        injection h2 with h2
        exact ⟨h1, h2.symm⟩
      refine l_neNil rfl rfl rfl (.inl ⟨rfl, rfl⟩) ?_
      all_goals ((try refine zR ?_) <;> (repeat' (with_reducible first | refine And.intro ?_ ?_ | intro _)))
      refine l_callG rfl zEvs rfl (IsDyadic_spec (sgn v) e u (limbs v.natAbs)) (loan1 (.ints zMem rfl)) ?_
      by_cases hD : IsD (sgn v) e (limbs v.natAbs)
      · have hdt := dtext_spec (sgn v) e u (limbs v.natAbs) hD
        rw [wText_itoa] at hdt
        all_goals ((try refine zR ?_) <;> (repeat' (with_reducible first | refine And.intro ?_ ?_ | intro _)))
        · exact absurd hD (by assumption)
        refine l_callG rfl zEvs rfl hdt (loan2 (.ints zMem rfl) zMem) ?_
        all_goals ((try refine zR ?_) <;> (repeat' (with_reducible first | refine And.intro ?_ ?_ | intro _)))
        · have hne : itoa v ++ 112 :: itoa e ≠ t := by assumption
          refine e_res rfl zRes [] [] (fun _ h => by cases h) (fun _ _ => trivial) fsub_nil ?_
          refine .inr ⟨fun v' e' h => ?_, rfl, rfl, rfl⟩
          obtain ⟨rfl, rfl⟩ := heq v' e' h
          exact hne h.1.symm
        · have hnn : ¬ (itoa v ++ 112 :: itoa e ≠ t) := by assumption
          have hte : t = itoa v ++ 112 :: itoa e := (Decidable.of_not_not hnn).symm
          exact e_resT rfl zRes (Lo := [.row u 2 1 (limbs v.natAbs).length ((limbs v.natAbs).map (Value.int .i64))]) zTake fsub_nil (.inl ⟨v, e, u, ⟨hte, hD⟩, rfl, rfl, rfl⟩)
      · all_goals ((try refine zR ?_) <;> (repeat' (with_reducible first | refine And.intro ?_ ?_ | intro _)))
        · refine e_res rfl zRes [] [] (fun _ h => by cases h) (fun _ _ => trivial) fsub_nil ?_
          refine .inr ⟨fun v' e' h => ?_, rfl, rfl, rfl⟩
          obtain ⟨rfl, rfl⟩ := heq v' e' h
          exact hD h.2
        · exact absurd hD (by assumption)
    · refine l_neNil rfl rfl rfl (.inr ⟨⟨T, y, rfl⟩, rfl⟩) ?_
      all_goals ((try refine zR ?_) <;> (repeat' (with_reducible first | refine And.intro ?_ ?_ | intro _)))
      refine e_res rfl zRes [] [] (fun _ h => by cases h) (fun _ _ => trivial) fsub_nil ?_
      refine .inr ⟨fun v' e' h => ?_, rfl, rfl, rfl⟩
      exact hnok e' (hveq v' e' h).2
  · all_goals ((try refine zR ?_) <;> (repeat' (with_reducible first | refine And.intro ?_ ?_ | intro _)))
    refine l_call0 rfl zEvs rfl (ParseInt_spec b hbl) zTake zFsub PPI.noF ?_
    rintro rv2 L' ⟨e, er, rfl, her, rfl, _⟩
    all_goals ((try refine zR ?_) <;> (repeat' (with_reducible first | refine And.intro ?_ ?_ | intro _)))
    · refine e_res rfl zRes [] [] (fun _ h => by cases h) (fun _ _ => trivial) fsub_nil ?_
      refine .inr ⟨fun v' e' h => ?_, rfl, rfl, rfl⟩
      obtain ⟨h1, _⟩ := huniq v' e' h
      apply hno
      rw [h1]
      refine ⟨spells_itoa v', ?_⟩
      rw [tval_itoa]
      rcases Nat.lt_or_ge v'.natAbs (2 ^ 4800) with h2 | h2
      · exact h2
      · have h3 := limbs_len_gt 200 v'.natAbs (by rw [show (16777216 : Nat) = 2 ^ 24 by decide, ← Nat.pow_mul]; exact h2)
        have h4 := h.2.1.len
        omega
    · exact absurd hcode (by assumption)
end Go.Proofs.YtbllgmcpebifhaaGreatDoor.K
