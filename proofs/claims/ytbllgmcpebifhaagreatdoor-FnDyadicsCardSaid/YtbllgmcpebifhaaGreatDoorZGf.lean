/- Large numbers: how many bits; a whole number out of a value. -/
import Derived.Test.YtbllgmcpebifhaaGreatDoorZGc
import Derived.Test.YtbllgmcpebifhaaGreatDoorZMa
import Derived.Test.YtbllgmcpebifhaaGreatDoorZFa
import Derived.Test.YtbllgmcpebifhaaGreatDoorZShelf
namespace Go.Proofs.YtbllgmcpebifhaaGreatDoor.K
open Go Go.RowKit
set_option linter.all false
set_option maxRecDepth 4000
set_option maxHeartbeats 1000000
set_option exponentiation.threshold 8000

theorem spec_of_calls {P : Program} {f : FuncId} {fn : Func} {c : Code} {args : List Value} {v : Value} {F : List Fact} (hf : P.funcs[f]? = some fn) (hb : fn.body = some c) (hnm : (fn.name == "runtime.NumGoroutine") = false)
    (h : ∀ w, Calls P f args.toArray w fun e w' => e = .returned v ∧ w' = w) : Spec P f args [] F (Gives v) := by
  refine ⟨⟨fn, c, hf, hb, hnm⟩, fun w X hX hL hF => (h w).mono ?_⟩
  rintro en w' ⟨rfl, rfl⟩
  exact ⟨v, [], [], rfl, ⟨rfl, rfl, rfl⟩, Keep.refl _ _, ⟨fun o h => (by cases h), trivial⟩, fun x hx => (keys_nil x hx).elim, fun φ h => (by cases h)⟩

/-- A call that is handed all that is owned. -/
theorem l_callA {G : Ctx} {n : Nat} {P : Program} {ops : Array Oper} {Q : Post} {rest : List Oper} {m : Regs} {L : List Own} {F : List Fact} {d : Nat} {ty : TypeId} {pos : String} {af : Array Edge} {g : Option (Nat × Bool)} {f : FuncId} {xs : List Operand} {vs : List Value} {ts : Array TypeId} {Fc : List Fact} {post : Value → List Own → List Fact → Prop}
    (hw : wantG ops m g = some true) (hv : Evs m xs vs) (hd : Nat.blt d n = true) (hs : Spec P f vs L Fc post) (hF : ∀ φ, φ ∈ Fc → φ ∈ F)
    (h : ∀ v L' F', post v L' F' → RunL G n P ops Q rest ((d, v) :: m) L' (F' ++ F)) :
    RunL G n P ops Q (⟨some d, .call ⟨.value (.func f), xs.toArray, ts⟩, ty, pos, af, g⟩ :: rest) m L F :=
  l_call hw hv hd hs (takeAll L) hF fun v L' F' hp => by rw [List.append_nil]; exact h v L' F' hp

section
variable {G : Ctx} {n : Nat} {P : Program} {ops : Array Oper} {Q : Post} {rest : List Oper} {m : Regs} {L : List Own} {F : List Fact} {d : Nat} {ty : TypeId} {pos : String} {af : Array Edge} {g : Option (Nat × Bool)} {f : FuncId} {xs : List Operand} {vs : List Value} {ts : Array TypeId} {Fc : List Fact} {Lc Lr : List Own} {u : Value}
/-- A call that hands a value back and leaves what it was handed. -/
theorem l_callV (hw : wantG ops m g = some true) (hv : Evs m xs vs) (hd : Nat.blt d n = true) (hs : Spec P f vs Lc Fc (PVal u Lc)) (hL : Take L Lc Lr) (hF : ∀ φ, φ ∈ Fc → φ ∈ F) (h : RunL G n P ops Q rest ((d, u) :: m) (Lc ++ Lr) F) :
    RunL G n P ops Q (⟨some d, .call ⟨.value (.func f), xs.toArray, ts⟩, ty, pos, af, g⟩ :: rest) m L F :=
  l_call hw hv hd hs hL hF fun v L' F' ⟨h1, h2, h3⟩ => by subst h1; subst h2; subst h3; exact h
theorem l_callVA (hw : wantG ops m g = some true) (hv : Evs m xs vs) (hd : Nat.blt d n = true) (hs : Spec P f vs L Fc (PVal u L)) (hF : ∀ φ, φ ∈ Fc → φ ∈ F) (h : RunL G n P ops Q rest ((d, u) :: m) L F) :
    RunL G n P ops Q (⟨some d, .call ⟨.value (.func f), xs.toArray, ts⟩, ty, pos, af, g⟩ :: rest) m L F :=
  l_callA hw hv hd hs hF fun v L' F' ⟨h1, h2, h3⟩ => by subst h1; subst h2; subst h3; exact h
/-- A call whose large number is handed back where it lies. -/
theorem l_callI {z : Nat} {v : Int} {R : List Own} (hw : wantG ops m g = some true) (hv : Evs m xs vs) (hd : Nat.blt d n = true) (hs : Spec P f vs Lc Fc (PInt z v R)) (hL : Take L Lc Lr) (hF : ∀ φ, φ ∈ Fc → φ ∈ F) (h : ∀ mag, RunL G n P ops Q rest ((d, ptr z) :: m) (oInt z v mag :: (R ++ Lr)) (fDig mag v.natAbs :: F)) :
    RunL G n P ops Q (⟨some d, .call ⟨.value (.func f), xs.toArray, ts⟩, ty, pos, af, g⟩ :: rest) m L F :=
  l_call hw hv hd hs hL hF fun v L' F' ⟨mag, h1, h2, h3⟩ => by subst h1; subst h2; subst h3; exact h mag
theorem l_callIA {z : Nat} {v : Int} {R : List Own} (hw : wantG ops m g = some true) (hv : Evs m xs vs) (hd : Nat.blt d n = true) (hs : Spec P f vs L Fc (PInt z v R)) (hF : ∀ φ, φ ∈ Fc → φ ∈ F) (h : ∀ mag, RunL G n P ops Q rest ((d, ptr z) :: m) (oInt z v mag :: R) (fDig mag v.natAbs :: F)) :
    RunL G n P ops Q (⟨some d, .call ⟨.value (.func f), xs.toArray, ts⟩, ty, pos, af, g⟩ :: rest) m L F :=
  l_callA hw hv hd hs hF fun v L' F' ⟨mag, h1, h2, h3⟩ => by subst h1; subst h2; subst h3; exact h mag
end

theorem Len32_spec (x : Int) (h : 0 ≤ x ∧ x < 4294967296) : Spec Tryz.prog 269 [.int .u32 x] [] [] (Gives (.int .i64 (blen x.toNat : Int))) :=
  spec_of_calls Tryz.func269 rfl (by kernel_rfl) fun w => by
    rw [← bitLen_eq x.toNat (by omega)]
    exact Tryz.bits_Len32 x w h.1 (by omega)

theorem BitLen_spec (x : Nat) (v : Int) (mx : Value) (R : List Own) (hx : oInt x v mx ∈ R) (hv : v.natAbs < 4294967296 ^ 2000) :
    Spec Tryz.prog 231 [ptr x] R [fDig mx v.natAbs] (PVal (.int .i64 (blen v.natAbs : Int)) R) := by
  refine enter Tryz.func231 Tryz.ntmps231 rfl (by kernel_rfl) zCon rfl fun G => ?_
  refine c_dig (mag := mx) zMem fun d hd => ?_
  refine c_isList (v := mx) zMem fun hs1 => ?_
  have hl := hd.len hv
  rcases Nat.eq_zero_or_pos d.length with h0 | hp
  · have hz := hd.zero h0
    all_goals ((try refine zR ?_) <;> (repeat' (with_reducible first | refine And.intro ?_ ?_ | intro _)))
    all_goals (first | (exfalso; omega) | skip)
    refine e_res rfl zRes _ [] (fun _ h => h) (fun _ h => h.apart) fsub_nil ⟨?_, rfl, rfl⟩
    rw [hz]; rfl
  · have hd1 : d.length - 1 < d.length := by omega
    have htop := hd.1 _ (List.getElem_mem hd1)
    have hget : d[d.length - 1]? = some d[d.length - 1] := List.getElem?_eq_getElem hd1
    have hne : d[d.length - 1] ≠ 0 := by
      rcases hd.2.1 with h | ⟨_, h⟩
      · rw [h] at hp; simp at hp
      · exact h
    have hval : v.natAbs = vl 4294967296 (d.take (d.length - 1)) + 4294967296 ^ (d.length - 1) * d[d.length - 1].toNat := by
      rw [← vl_take_succ _ _ _ hd1, show d.length - 1 + 1 = d.length by omega, List.take_length, hd.2.2]
    have hlo := vl_lt _ _ (hd.1.take (d.length - 1))
    rw [List.length_take, Nat.min_eq_left (by omega)] at hlo
    revert htop hget hne hval
    generalize d[d.length - 1] = top
    intro htop hget hne hval
    have hblen : blen v.natAbs = 32 * (d.length - 1) + blen top.toNat := by
      rw [hval]
      have := blen_top (32 * (d.length - 1)) (vl 4294967296 (d.take (d.length - 1))) top.toNat (by rw [Nat.pow_mul]; exact hlo) (by omega)
      rw [Nat.pow_mul] at this
      exact this
    have hb32 : blen top.toNat ≤ 32 := blen_le.2 (by omega)
    have hL := Len32_spec top htop
    all_goals (((try refine zR ?_) <;> (repeat' (with_reducible first | refine And.intro ?_ ?_ | intro _))) <;> (repeat' ((first | ((with_reducible apply l_callP); exact rfl; exact zEvs; exact rfl; (with_reducible apply hL); (case hF => exact zFsub); (try any_goals (refine propId ?_; omega)))) <;> ((try refine zR ?_) <;> (repeat' (with_reducible first | refine And.intro ?_ ?_ | intro _))))))
    all_goals (first | (exfalso; omega) | skip)
    refine e_res rfl zRes _ [] (fun _ h => h) (fun _ h => h.apart) fsub_nil ⟨?_, rfl, rfl⟩
    simp only [retVal]
    congr 1
    omega
end Go.Proofs.YtbllgmcpebifhaaGreatDoor.K
