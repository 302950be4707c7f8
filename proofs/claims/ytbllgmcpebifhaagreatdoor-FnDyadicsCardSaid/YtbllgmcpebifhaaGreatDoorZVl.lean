/- The draws: whole numbers. -/
import Derived.Test.YtbllgmcpebifhaaGreatDoorZVg
import Derived.Test.YtbllgmcpebifhaaGreatDoorZJg
import Derived.Test.YtbllgmcpebifhaaGreatDoorZJi
import Derived.Test.YtbllgmcpebifhaaGreatDoorZJj

section
namespace Go.Proofs.YtbllgmcpebifhaaGreatDoor.K
open Go Go.RowKit
set_option linter.all false
set_option maxRecDepth 4000
set_option maxHeartbeats 1000000
set_option exponentiation.threshold 8000

/-- A post whose value is not told whole; facts are handed back. -/
def PMF {ι : Type} (fv : ι → Value) (L1 : ι → List Own) (F1 : ι → List Fact) (v : Value) (L' : List Own) (F' : List Fact) : Prop := ∃ i, v = fv i ∧ L' = L1 i ∧ F' = F1 i
section
variable {G : Ctx} {n : Nat} {P : Program} {ops : Array Oper} {Q : Post} {rest : List Oper} {m : Regs} {L L' : List Own} {F : List Fact} {d : Nat} {ty : TypeId} {pos : String} {af : Array Edge} {g : Option (Nat × Bool)} {v : Value}
theorem l_callMF {f : FuncId} {x : Operand} {xs : List Operand} {vs : List Value} {ts : Array TypeId} {Lc Lr : List Own} {Fc : List Fact} {ι : Type} {fv : ι → Value} {L1 : ι → List Own} {F1 : ι → List Fact}
    (hw : wantG ops m g = some true) (hx : ev m x = some (.func (.func f) #[] #[])) (hv : Evs m xs vs) (hd : Nat.blt d n = true) (hs : Spec P f vs Lc Fc (PMF fv L1 F1)) (hL : Take L Lc Lr) (hF : ∀ φ, φ ∈ Fc → φ ∈ F)
    (h : ∀ i : ι, RunL G n P ops Q rest ((d, fv i) :: m) (L1 i ++ Lr) (F1 i ++ F)) : RunL G n P ops Q (⟨some d, .call ⟨.value x, xs.toArray, ts⟩, ty, pos, af, g⟩ :: rest) m L F :=
  l_callF (first := []) (cap := []) (post := PMF fv L1 F1) hw hx hv hd (by simpa using hs) hL hF fun v L' F' ⟨i, h1, h2, h3⟩ => by subst h1; subst h2; subst h3; exact h i
theorem e_pmF {fn : Func} {rs : List ResultVar} {vs : List Value} {ι : Type} {fv : ι → Value} {L1 : ι → List Own} {F1 : ι → List Fact} (i : ι) (hr : fn.results = rs.toArray) (hv : Res P m L rs vs) (hL : Take L (L1 i) L') (hF : ∀ φ, φ ∈ F1 i → φ ∈ F) (he : retVal vs = fv i) :
    Ends G n (bodyPost P fn (Fin G (PMF fv L1 F1))) .ret m L F := e_resT (post := PMF fv L1 F1) hr hv hL (Fo := F1 i) hF ⟨i, he, rfl, rfl⟩
end
/-- One of two numbers is picked. -/
theorem l_pick2 {G : Ctx} {n : Nat} {ops : Array Oper} {Q : Post} {rest : List Oper} {m : Regs} {L L1 Lr : List Own} {F : List Fact} {v : Value} {e : TypeId} {x1 x2 : Int} {d2 : Nat} {ty2 : TypeId} {pos2 : String} {af2 : Array Edge} {g2 : Option (Nat × Bool)} {x : Operand} {xs : List Operand} {ts : Array TypeId}
    (p : Int → Prop) (b : Nat) (vc : Value) (code : List Int) (hb : Bytes code) (hl : code.length ≤ 100000) {s : Seed code.length} (h1 : p x1) (h2 : p x2)
    (hw2 : wantG ops m g2 = some true) (hx : ev m x = some (.func (.func 107) #[] #[])) (hv2 : Evs m xs [pt b, v]) (hd2 : Nat.blt d2 n = true) (he : Era L (.row v e 1 2 (List.map (Value.int .i64) [x1, x2])) L1) (hL : Take L1 [oSrc b vc s] Lr) (hF : fCode vc code ∈ F)
    (h : ∀ i : {x : Int // p x} × Seed code.length, RunL G n Tryz.prog ops Q rest ((d2, .int .i64 i.1.1) :: m) (oSrc b vc i.2 :: Lr) (fList 1 rRaw v [.int .i64 x1, .int .i64 x2] :: F)) :
    RunL G n Tryz.prog ops Q (⟨some d2, .call ⟨.value x, xs.toArray, ts⟩, ty2, pos2, af2, g2⟩ :: rest) m L F := by
  refine l_frzRaw (vs := [.int .i64 x1, .int .i64 x2]) he ?_
  refine l_callM hw2 hx hv2 hd2 (l01Pick_spec p b vc code hb hl s v [.int .i64 x1, .int .i64 x2] (.cons h1 (.cons h2 .nil)) (Nat.zero_lt_succ _) (show 2 < 1000 by decide)) hL (fun φ hφ => ?_) fun i => h i
  rcases List.mem_cons.1 hφ with rfl | hφ
  · exact .tail _ hF
  · rw [List.mem_singleton.1 hφ]; exact .head _
def p24 (z : Int) : Prop := 0 ≤ z ∧ z < 16777216
def psg (z : Int) : Prop := z = 1 ∨ z = -1
theorem p24_next (i : NextR 16777216) : p24 i.1 := ⟨i.2.1, i.2.2.2 (by decide)⟩
theorem p24_1000 (i : NextR 1000) : p24 i.1 := by
  have h0 := i.2.1
  have h1 := i.2.2.2 (by decide)
  unfold p24
  omega
abbrev DrW (k N : Nat) : Type := {i : (Int × Value) × Seed N // i.1.1.natAbs < 2 ^ k ∧ IsSl i.1.2}
theorem sgn_pm {sg : Int} {x : Nat} (h : psg sg) : sgn (sg * (x : Int)) = (if x = 0 then 0 else sg) ∧ (sg * (x : Int)).natAbs = x := by
  have e : (sg * (x : Int)).natAbs = x := by rcases h with rfl | rfl <;> omega
  refine ⟨?_, e⟩
  unfold sgn
  rcases h with rfl | rfl <;> (split <;> split <;> omega)
theorem vl_len {l : List Int} (h : InR 16777216 l) {k : Nat} (hk : l.length ≤ k) : vl 16777216 l < 2 ^ (24 * k) := by
  have h1 := vl_lt _ _ h
  rw [show (16777216 : Nat) = 2 ^ 24 by decide, ← Nat.pow_mul] at h1
  exact Nat.lt_of_lt_of_le h1 (Nat.pow_le_pow_right (by omega) (Nat.mul_le_mul_left _ hk))
theorem l02Draw_spec (b : Nat) (vc : Value) (code : List Int) (hb : Bytes code) (hl : code.length ≤ 100000) (s : Seed code.length) (n : Int) (hn : 0 ≤ n ∧ n ≤ 6) : Spec Tryz.prog 235 [pt b, .int .i64 n] [oSrc b vc s] [fCode vc code]
    (PMF (fun i : DrW 144 code.length => vWhole (sgn i.1.1.1) i.1.1.2) (fun i => [oSrc b vc i.1.2]) fun i => [fList 1 (rInt .i64) i.1.1.2 (limbs i.1.1.1.natAbs)]) := by
  refine enter Tryz.func235 Tryz.ntmps235 rfl (by kernel_rfl) zCon rfl fun G => ?_
  refine c_isList (v := vc) zMem fun hsp => ?_
  have hN := l01Next_spec b vc code hb hl
  all_goals ((try refine zR3 ?_) <;> (repeat' (with_reducible first | refine And.intro ?_ ?_ | intro _)))
  rename_i b4 v0
  refine l_callM rfl rfl zEvs rfl (hN s (n + 1) (by omega)) zTake zFsub fun i => ?_
  obtain ⟨⟨x, hx0, _, hx2⟩, s1⟩ := i
  have hx3 := hx2 (by omega)
  dsimp only
  refine l_isRow (v := v0) zHas fun hs0 _ => ?_
  all_goals ((try refine zR3 ?_) <;> (repeat' (with_reducible first | refine And.intro ?_ ?_ | intro _)))
  refine c_while (ι := {y : Int × Value × List Int × Seed code.length // IsSl y.2.1 ∧ InR 16777216 y.2.2.1 ∧ 0 ≤ y.1 ∧ y.1 + (y.2.2.1.length : Int) ≤ 6}) (κ := {y : Value × List Int × Seed code.length // IsSl y.1 ∧ InR 16777216 y.2.1 ∧ y.2.1.length ≤ 6})
    (fun y => [(6, .int .i64 y.1.1), (5, y.1.2.1), (4, ptr b4), (0, pt b)]) (fun y => [.row y.1.2.1 2 1 y.1.2.2.1.length (y.1.2.2.1.map (Value.int .i64)), oSrc b vc y.1.2.2.2, .box b4 [.int .i64 0, .slice none 0 0] 46]) (fun _ => [fCode vc code]) (fun y => y.1.1.toNat)
    (fun y => [(5, y.1.1), (4, ptr b4), (0, pt b)]) (fun y => [.row y.1.1 2 1 y.1.2.1.length (y.1.2.1.map (Value.int .i64)), oSrc b vc y.1.2.2, .box b4 [.int .i64 0, .slice none 0 0] 46]) (fun _ => [fCode vc code]) ⟨(x, v0, [], s1), hs0, (fun _ h => by cases h), hx0, by dsimp only [List.length_nil]; omega⟩ (fun _ _ s => s.startT zSub zTake zFsub) ?_ ?_
  · rintro ⟨⟨k, v, l, s⟩, hs, hr, hk0, hk⟩
    dsimp only at hs hr hk0 hk ⊢
    all_goals (((try refine zR3 ?_) <;> (repeat' (with_reducible first | refine And.intro ?_ ?_ | intro _))) <;> (repeat' ((first | ((with_reducible apply l_callM); exact rfl; exact rfl; exact zEvs; exact rfl; (apply hN); (case hL => exact zTake); (case hF => exact zFsub); (try any_goals (refine propId ?_; first | omega | exact zLt)); (with_reducible intro _)) | (refine l_pickI p24 b vc code hb hl rfl rfl zEvs rfl rfl rfl (by repeat (first | exact PL.nil | refine PL.cons (by first | exact p24_next _ | exact p24_1000 _ | exact (show _ ∧ _ from by decide)) ?_)) rfl rfl (fun _ => rfl) (fun _ => rfl) (fun _ => zEvs) rfl zTake zMem fun _ _ => ?_)) <;> ((try refine zR3 ?_) <;> (repeat' (with_reducible first | refine And.intro ?_ ?_ | intro _))))))
    · rename_i i _ v2
      refine ends_isRowQ (v := v2) zHas fun hs2 => ?_
      exact e_againT (Lr := []) ⟨(k - 1, v2, l ++ [i.1.1], i.2), hs2, (fun y hy => by
        rcases List.mem_append.1 hy with hy | hy
        · exact hr y hy
        · rw [List.mem_singleton.1 hy]; exact i.1.2), by dsimp only; omega, by dsimp only; rw [List.length_append, List.length_singleton]; omega⟩ (by dsimp only; omega) zSub (by dsimp only; simp only [List.length_append, List.length_singleton]; exact zTake) zFsub
    · exact e_outT (Lr := []) ⟨(v, l, s), hs, hr, by dsimp only; omega⟩ zSub zTake zFsub
  · rintro ⟨⟨v, l, s⟩, hs, hr, hk⟩
    dsimp only at hs hr hk ⊢
    refine c_freezeInts (v := v) (l := l) .head rfl ?_
    all_goals (((try refine zR3 ?_) <;> (repeat' (with_reducible first | refine And.intro ?_ ?_ | intro _))) <;> (repeat' ((first | (refine l_pick2 psg b vc code hb hl (.inl rfl) (.inr rfl) rfl rfl zEvs rfl .head zTake zMem fun _ => ?_)) <;> ((try refine zR3 ?_) <;> (repeat' (with_reducible first | refine And.intro ?_ ?_ | intro _))))))
    rename_i i
    obtain ⟨⟨sg, hsg⟩, s2⟩ := i
    try dsimp only
    refine l_call rfl zEvs rfl (l02MakeV_spec sg v l (by omega) hr) zTake zFsub ?_
    rintro _ L' F' ⟨v', rfl, rfl, rfl⟩
    refine l_isList (.head _) fun hs' => ?_
    obtain ⟨q1, q2⟩ := sgn_pm (x := vl 16777216 l) hsg
    all_goals ((try refine zR3 ?_) <;> (repeat' (with_reducible first | refine And.intro ?_ ?_ | intro _)))
    exact e_pmF ⟨((sg * (vl 16777216 l : Int), v'), s2), by dsimp only; rw [q2]; exact vl_len hr hk, hs'⟩ rfl zRes (by dsimp only; exact zTake) (by dsimp only; rw [q2]; exact zFsub) (by dsimp only; rw [q1]; rfl)
end Go.Proofs.YtbllgmcpebifhaaGreatDoor.K
end

section
/- The draws: exact numbers. -/
namespace Go.Proofs.YtbllgmcpebifhaaGreatDoor.K
open Go Go.RowKit Go.Lib
set_option linter.all false
set_option maxRecDepth 4000
set_option maxHeartbeats 1000000
set_option exponentiation.threshold 20000

/-- A literal of whole numbers of a kind. -/
theorem l_litP {G : Ctx} {n : Nat} {P : Program} {ops : Array Oper} {Q : Post} {rest : List Oper} {m : Regs} {L : List Own} {F : List Fact} {d : Nat} {ty : TypeId} {pos : String} {af : Array Edge} {g : Option (Nat × Bool)}
    {t e : TypeId} {z : Value} {by' : Nat} [u : Und P t (.slice e)] [f : Inf P e z 1 by'] {k : Nat} {parts : Array (Nat × Operand)} {vs : List Value} (p : Int → Prop)
    (hw : wantG ops m g = some true) (hd : Nat.blt d n = true) (hv : Evs m (parts.toList.map (·.2)) vs) (hp : parts.toList.map (·.1) = List.range' 0 k) (hk : vs.length = k) (hz : z.cells = #[z]) (hpl : PL p vs) (hk0 : Nat.blt 0 k = true) (hk1 : Nat.blt k 1000 = true)
    (h : ∀ v us, IsSl v → PL p us → 0 < us.length → us.length < 1000 → RunL G n P ops Q rest ((d, v) :: m) L (fList 1 rRaw v us :: F)) : RunL G n P ops Q (⟨some d, .buildSlice t k parts, ty, pos, af, g⟩ :: rest) m L F := by
  refine l_litN hw hd hv hp hk hz hpl.ones hk1 fun v => ?_
  refine l_frzRaw .head ?_
  have h0 := Nat.le_of_ble_eq_true hk0
  have h1 := Nat.le_of_ble_eq_true hk1
  exact l_isList (.head _) fun hs => h v vs hs hpl (by omega) (by omega)
theorem Spec.weakV {P : Program} {f : FuncId} {args : List Value} {L : List Own} {F : List Fact} {post post' : Value → List Own → List Fact → Prop} (h : Spec P f args L F post) (k : ∀ v L' F', post v L' F' → post' v L' F') : Spec P f args L F post' :=
  ⟨h.1, fun w X h1 h2 h3 => (h.2 w X h1 h2 h3).mono fun e w' ⟨v, L', F', a, b, c⟩ => ⟨v, L', F', a, k _ _ _ b, c⟩⟩
theorem l03MakeN_spec (u : Value) (v e : Int) (hv : v.natAbs < 2 ^ 14801) (he : -1000000 ≤ e ∧ e ≤ 1000000) : Spec Tryz.prog 116 [vWhole (sgn v) u, .int .i64 e] [] [fList 1 (rInt .i64) u (limbs v.natAbs)] (PDw (nv v) (ne v e)) :=
  l03Make_spec u v e (Nat.le_trans (limbs_two 620 (Nat.lt_of_lt_of_le hv (Nat.pow_le_pow_right (by omega) (by omega)))) (by omega)) (Nat.le_trans (twos_blen hv) (by omega)) he
def p30 (z : Int) : Prop := 0 ≤ z ∧ z ≤ 30
def p16 (z : Int) : Prop := 0 ≤ z ∧ z ≤ 6
def pe (z : Int) : Prop := -5000 ≤ z ∧ z ≤ 5000
theorem pe_200 (i : NextR 200) : pe (IntKind.i64.wrap (i.1 - 100)) := by
  have h0 := i.2.1
  have h1 := i.2.2.2 (by decide)
  unfold pe
  rw [IntKind.wrap_i64]
  omega
theorem pe_4000 (i : NextR 4000) : pe (IntKind.i64.wrap (i.1 - 2000)) := by
  have h0 := i.2.1
  have h1 := i.2.2.2 (by decide)
  unfold pe
  rw [IntKind.wrap_i64]
  omega
theorem pe_9000 (i : NextR 9000) : pe (IntKind.i64.wrap (i.1 - 4500)) := by
  have h0 := i.2.1
  have h1 := i.2.2.2 (by decide)
  unfold pe
  rw [IntKind.wrap_i64]
  omega
/-- A drawn exact number. -/
abbrev DrD (N : Nat) : Type := {i : ((Int × Int) × Value) × Seed N // i.1.1.1.natAbs < 2 ^ 200 ∧ (-20000 ≤ i.1.1.2 ∧ i.1.1.2 ≤ 20000) ∧ IsSl i.1.2}
theorem ne_b {v e : Int} {k : Nat} {a : Int} (hv : v.natAbs < 2 ^ k) (he : -a ≤ e ∧ e ≤ a) (h : 0 ≤ a ∧ a + k ≤ 20000) : -20000 ≤ ne v e ∧ ne v e ≤ 20000 := by
  have := twos_blen hv
  unfold ne
  split <;> omega
theorem nv_b {v : Int} {k : Nat} (hv : v.natAbs < 2 ^ k) (hk : k ≤ 200) : (nv v).natAbs < 2 ^ 200 := Nat.lt_of_lt_of_le (Nat.lt_of_le_of_lt (nv_le v) hv) (Nat.pow_le_pow_right (by omega) hk)
theorem l02MakeS_spec (sg : Int) (hsg : psg sg) (u : Value) (w : Int) (hw : w.natAbs < 2 ^ 1000) : Spec Tryz.prog 188 [.int .i64 sg, u] [] [fList 1 (rInt .i64) u (limbs w.natAbs)] (PWh (sg * (w.natAbs : Int))) := by
  have h := l02MakeV_spec sg u (limbs w.natAbs) (Nat.le_trans (limbs_two 42 (Nat.lt_of_lt_of_le hw (Nat.pow_le_pow_right (by omega) (by omega)))) (by omega)) (fun x hx => limbs_range _ x hx)
  refine Spec.weakV h fun r L' F' ⟨v', h1, h2, h3⟩ => ?_
  obtain ⟨q1, q2⟩ := sgn_pm (x := w.natAbs) hsg
  rw [limbs_val] at h1 h3
  exact ⟨v', by rw [q1]; exact h1, h2, by rw [q2]; exact h3⟩
theorem l03Draw_spec (b : Nat) (vc : Value) (code : List Int) (hb : Bytes code) (hl : code.length ≤ 100000) (s : Seed code.length) : Spec Tryz.prog 178 [pt b] [oSrc b vc s] [fCode vc code]
    (PMF (fun i : DrD code.length => vDyadic (sgn i.1.1.1.1) i.1.1.2 i.1.1.1.2) (fun i => [oSrc b vc i.1.2]) fun i => [fList 1 (rInt .i64) i.1.1.2 (limbs i.1.1.1.1.natAbs)]) := by
  refine enter Tryz.func178 Tryz.ntmps178 rfl (by kernel_rfl) zCon rfl fun G => ?_
  refine c_isList (v := vc) zMem fun hsp => ?_
  have hN := l01Next_spec b vc code hb hl
  have hF := l01FloatF_spec b vc code hb hl
  all_goals ((try refine zR3 ?_) <;> (repeat' (with_reducible first | refine And.intro ?_ ?_ | intro _)))
  refine l_callM rfl rfl zEvs rfl (hN s 4 (by omega)) zTake zFsub fun i => ?_
  obtain ⟨⟨x, hx0, _, hx2⟩, s1⟩ := i
  dsimp only
  all_goals (((try refine zR3 ?_) <;> (repeat' (with_reducible first | refine And.intro ?_ ?_ | intro _))) <;> (repeat' ((first | ((with_reducible apply l_callM); exact rfl; exact rfl; exact zEvs; exact rfl; (apply hF); (case hL => exact zTake); (case hF => exact zFsub); (try any_goals (refine propId ?_; first | omega | exact zLt)); (with_reducible intro _))) <;> ((try refine zR3 ?_) <;> (repeat' (with_reducible first | refine And.intro ?_ ?_ | intro _))))))
  · rename_i i
    obtain ⟨⟨y, hy64, a, hya⟩, s2⟩ := i
    try dsimp only
    refine l_call rfl zEvs rfl (l03Of_spec y a hy64 hya) zTake zFsub ?_
    rintro _ L' F' ⟨v, e, hV, hN, h53, he1, he2, u, rfl, rfl, rfl⟩
    refine l_isList (.head _) fun hsu => ?_
    all_goals ((try refine zR3 ?_) <;> (repeat' (with_reducible first | refine And.intro ?_ ?_ | intro _)))
    exact e_pmF ⟨(((v, e), u), s2), Nat.lt_of_lt_of_le h53 (Nat.pow_le_pow_right (by omega) (by omega)), by dsimp only; omega, hsu⟩ rfl zRes zTake zFsub rfl
  · refine l_callM rfl rfl zEvs rfl (hN s1 2001 (by omega)) zTake zFsub fun i => ?_
    obtain ⟨⟨y, hy0, _, hy2⟩, s2⟩ := i
    have hy3 := hy2 (by omega)
    dsimp only
    all_goals ((try refine zR3 ?_) <;> (repeat' (with_reducible first | refine And.intro ?_ ?_ | intro _)))
    have hv : (y - 1000).natAbs < 2 ^ 14 := by omega
    refine l_call rfl zEvs rfl (l02Of_spec (y - 1000) (by omega)) zTake zFsub ?_
    rintro _ L' F' ⟨u1, rfl, rfl, rfl⟩
    refine l_isList (.head _) fun hsu1 => ?_
    all_goals ((try refine zR3 ?_) <;> (repeat' (with_reducible first | refine And.intro ?_ ?_ | intro _)))
    refine l_callM rfl rfl zEvs rfl (hN s2 41 (by omega)) zTake zFsub fun i => ?_
    obtain ⟨⟨z, hz0, _, hz2⟩, s3⟩ := i
    have hz3 := hz2 (by omega)
    dsimp only
    all_goals ((try refine zR3 ?_) <;> (repeat' (with_reducible first | refine And.intro ?_ ?_ | intro _)))
    refine l_call rfl zEvs rfl (l03MakeN_spec u1 (y - 1000) (z - 20) (Nat.lt_of_lt_of_le hv (Nat.pow_le_pow_right (by omega) (by omega))) (by omega)) zTake zFsub ?_
    rintro _ L' F' ⟨u2, rfl, rfl, rfl⟩
    refine l_isList (.head _) fun hsu2 => ?_
    all_goals ((try refine zR3 ?_) <;> (repeat' (with_reducible first | refine And.intro ?_ ?_ | intro _)))
    exact e_pmF ⟨(((nv (y - 1000), ne (y - 1000) (z - 20)), u2), s3), nv_b hv (by omega), ne_b hv (a := 20) (by omega) (by omega), hsu2⟩ rfl zRes zTake zFsub rfl
  · refine l_callM rfl rfl zEvs rfl (hN s1 16777216 (by omega)) zTake zFsub fun i => ?_
    obtain ⟨⟨y, hy0, _, hy2⟩, s2⟩ := i
    have hy3 := hy2 (by omega)
    dsimp only
    all_goals ((try refine zR3 ?_) <;> (repeat' (with_reducible first | refine And.intro ?_ ?_ | intro _)))
    refine l_call rfl zEvs rfl (l02Of_spec (y + 536870912) (by omega)) zTake zFsub ?_
    rintro _ L' F' ⟨u1, rfl, rfl, rfl⟩
    refine l_isList (.head _) fun hsu1 => ?_
    all_goals (((try refine zR3 ?_) <;> (repeat' (with_reducible first | refine And.intro ?_ ?_ | intro _))) <;> (repeat' ((first | (refine l_pickI p30 b vc code hb hl rfl rfl zEvs rfl rfl rfl (by repeat (first | exact PL.nil | refine PL.cons (by exact (show _ ∧ _ from by decide)) ?_)) rfl rfl (fun _ => rfl) (fun _ => rfl) (fun _ => zEvs) rfl zTake zMem fun _ _ => ?_)) <;> ((try refine zR3 ?_) <;> (repeat' (with_reducible first | refine And.intro ?_ ?_ | intro _))))))
    rename_i i
    obtain ⟨⟨k, hk⟩, s3⟩ := i
    try dsimp only
    unfold p30 at hk
    obtain ⟨k, rfl⟩ : ∃ j : Nat, k = (j : Int) := ⟨k.toNat, by omega⟩
    have hv1 : (y + 536870912).natAbs < 2 ^ 30 := by omega
    have hv2 : ((y + 536870912) * (2 ^ k : Nat)).natAbs < 2 ^ 60 := by rw [natAbs_pw]; exact pw_lt hv1 _ (by omega)
    refine l_call rfl zEvs rfl (l02Left_spec u1 (y + 536870912) k (Nat.le_trans (limbs_two 3 (Nat.lt_of_lt_of_le hv1 (by decide))) (by omega)) (by omega)) zTake zFsub ?_
    rintro _ L' F' ⟨u2, rfl, rfl, rfl⟩
    refine l_isList (.head _) fun hsu2 => ?_
    all_goals ((try refine zR3 ?_) <;> (repeat' (with_reducible first | refine And.intro ?_ ?_ | intro _)))
    refine l_callM rfl rfl zEvs rfl (hN s3 5 (by omega)) zTake zFsub fun i => ?_
    obtain ⟨⟨z, hz0, _, hz2⟩, s4⟩ := i
    have hz3 := hz2 (by omega)
    dsimp only
    all_goals ((try refine zR3 ?_) <;> (repeat' (with_reducible first | refine And.intro ?_ ?_ | intro _)))
    refine l_call rfl zEvs rfl (l02Of_spec (z - 2) (by omega)) zTake zFsub ?_
    rintro _ L' F' ⟨u3, rfl, rfl, rfl⟩
    refine l_isList (.head _) fun hsu3 => ?_
    all_goals ((try refine zR3 ?_) <;> (repeat' (with_reducible first | refine And.intro ?_ ?_ | intro _)))
    have hv3 : (z - 2).natAbs < 2 ^ 10 := by omega
    refine l_call rfl zEvs rfl (l02Add_spec u2 u3 _ _ 3 (limbs_two 3 (Nat.lt_of_lt_of_le hv2 (by decide))) (limbs_two 3 (Nat.lt_of_lt_of_le hv3 (by decide))) (by omega)) zTake zFsub ?_
    rintro _ L' F' ⟨u4, rfl, rfl, rfl⟩
    refine l_isList (.head _) fun hsu4 => ?_
    have hv4 : ((y + 536870912) * (2 ^ k : Nat) + (z - 2)).natAbs < 2 ^ 61 := by
      have e60 : (2 : Nat) ^ 60 = 1152921504606846976 := by decide
      have e61 : (2 : Nat) ^ 61 = 2305843009213693952 := by decide
      rw [e60] at hv2
      rw [e61]
      omega
    generalize (y + 536870912) * (2 ^ k : Nat) + (z - 2) = w at hv4 ⊢
    all_goals ((try refine zR3 ?_) <;> (repeat' (with_reducible first | refine And.intro ?_ ?_ | intro _)))
    rename_i b3
    refine c_draw ([10], []) [.box b3 [.int .i64 (sgn w), u4] 46] [0, 3, 4, 6, 1, 2, 5, 7, 8, 9, 10] (by kernel_rfl) (by kernel_rfl) ?_
    all_goals ((try refine zD3 ?_) <;> (repeat' (with_reducible first | refine And.intro ?_ ?_ | intro _)))
    refine a_two (k := 7) [2, 5, 7, 8, 9, 10] [1, 2, 5, 8, 9, 10] rfl rfl (.inl (by decide +kernel)) rfl rfl ?_ ?_
    · all_goals ((try refine zD3 ?_) <;> (repeat' (with_reducible first | refine And.intro ?_ ?_ | intro _)))
      refine a_two (k := 7) [5, 7, 8, 9, 10] [2, 5, 8, 9, 10] rfl rfl (.inl (by decide +kernel)) rfl rfl ?_ ?_
      · skip
        refine l_pick2 psg b vc code hb hl (.inl rfl) (.inr rfl) rfl rfl zEvs rfl zEra zTake zMem fun i => ?_
        obtain ⟨⟨sg, hsg⟩, s6⟩ := i
        try dsimp only
        all_goals ((try refine zD3 ?_) <;> (repeat' (with_reducible first | refine And.intro ?_ ?_ | intro _)))
        refine a_two (k := 7) [7, 8, 9, 10] [5, 8, 9, 10] rfl rfl (.inl (by decide +kernel)) rfl rfl ?_ ?_
        · skip
          refine l_call rfl zEvs rfl (l02MakeS_spec sg hsg u4 w (Nat.lt_of_lt_of_le hv4 (Nat.pow_le_pow_right (by omega) (by omega)))) zTake zFsub ?_
          rintro _ L' F' ⟨u5, rfl, rfl, rfl⟩
          refine l_isList (.head _) fun hsu5 => ?_
          all_goals ((try refine zD3 ?_) <;> (repeat' (with_reducible first | refine And.intro ?_ ?_ | intro _)))
          refine l_litP pe rfl rfl zEvs rfl rfl rfl (by repeat (first | exact PL.nil | refine PL.cons (by exact (show _ ∧ _ from by decide)) ?_)) rfl rfl fun v us hsv hpl hul0 hul1 => ?_
          all_goals ((try refine zD3 ?_) <;> (repeat' (with_reducible first | refine And.intro ?_ ?_ | intro _)))
          refine l_callM rfl rfl zEvs rfl (l01Pick_spec pe b vc code hb hl _ _ _ hpl hul0 hul1) zTake zFsub fun i => ?_
          obtain ⟨⟨e, he⟩, s7⟩ := i
          try dsimp only
          unfold pe at he
          have hv5 : (sg * (w.natAbs : Int)).natAbs < 2 ^ 61 := by rw [(sgn_pm hsg).2]; exact hv4
          all_goals ((try refine zD3 ?_) <;> (repeat' (with_reducible first | refine And.intro ?_ ?_ | intro _)))
          refine l_call rfl zEvs rfl (l03MakeN_spec u5 _ e (Nat.lt_of_lt_of_le hv5 (Nat.pow_le_pow_right (by omega) (by omega))) (by omega)) zTake zFsub ?_
          rintro _ L' F' ⟨u6, rfl, rfl, rfl⟩
          refine l_isList (.head _) fun hsu6 => ?_
          all_goals ((try refine zD3 ?_) <;> (repeat' (with_reducible first | refine And.intro ?_ ?_ | intro _)))
          exact e_pmF ⟨(((nv (sg * (w.natAbs : Int)), ne (sg * (w.natAbs : Int)) e), u6), s7), nv_b hv5 (by omega), ne_b hv5 (a := 5000) (by omega) (by omega), hsu6⟩ rfl zRes zTake zFsub rfl
        · skip
          refine l_litP pe rfl rfl zEvs rfl rfl rfl (by repeat (first | exact PL.nil | refine PL.cons (by exact (show _ ∧ _ from by decide)) ?_)) rfl rfl fun v us hsv hpl hul0 hul1 => ?_
          all_goals ((try refine zD3 ?_) <;> (repeat' (with_reducible first | refine And.intro ?_ ?_ | intro _)))
          refine l_call rfl zEvs rfl (l02MakeS_spec sg hsg u4 w (Nat.lt_of_lt_of_le hv4 (Nat.pow_le_pow_right (by omega) (by omega)))) zTake zFsub ?_
          rintro _ L' F' ⟨u5, rfl, rfl, rfl⟩
          refine l_isList (.head _) fun hsu5 => ?_
          all_goals ((try refine zD3 ?_) <;> (repeat' (with_reducible first | refine And.intro ?_ ?_ | intro _)))
          refine l_callM rfl rfl zEvs rfl (l01Pick_spec pe b vc code hb hl _ _ _ hpl hul0 hul1) zTake zFsub fun i => ?_
          obtain ⟨⟨e, he⟩, s7⟩ := i
          try dsimp only
          unfold pe at he
          have hv5 : (sg * (w.natAbs : Int)).natAbs < 2 ^ 61 := by rw [(sgn_pm hsg).2]; exact hv4
          all_goals ((try refine zD3 ?_) <;> (repeat' (with_reducible first | refine And.intro ?_ ?_ | intro _)))
          refine l_call rfl zEvs rfl (l03MakeN_spec u5 _ e (Nat.lt_of_lt_of_le hv5 (Nat.pow_le_pow_right (by omega) (by omega))) (by omega)) zTake zFsub ?_
          rintro _ L' F' ⟨u6, rfl, rfl, rfl⟩
          refine l_isList (.head _) fun hsu6 => ?_
          all_goals ((try refine zD3 ?_) <;> (repeat' (with_reducible first | refine And.intro ?_ ?_ | intro _)))
          exact e_pmF ⟨(((nv (sg * (w.natAbs : Int)), ne (sg * (w.natAbs : Int)) e), u6), s7), nv_b hv5 (by omega), ne_b hv5 (a := 5000) (by omega) (by omega), hsu6⟩ rfl zRes zTake zFsub rfl
      · skip
        refine l_litP pe rfl rfl zEvs rfl rfl rfl (by repeat (first | exact PL.nil | refine PL.cons (by exact (show _ ∧ _ from by decide)) ?_)) rfl rfl fun v us hsv hpl hul0 hul1 => ?_
        all_goals ((try refine zD3 ?_) <;> (repeat' (with_reducible first | refine And.intro ?_ ?_ | intro _)))
        refine l_pick2 psg b vc code hb hl (.inl rfl) (.inr rfl) rfl rfl zEvs rfl zEra zTake zMem fun i => ?_
        obtain ⟨⟨sg, hsg⟩, s6⟩ := i
        try dsimp only
        all_goals ((try refine zD3 ?_) <;> (repeat' (with_reducible first | refine And.intro ?_ ?_ | intro _)))
        refine l_call rfl zEvs rfl (l02MakeS_spec sg hsg u4 w (Nat.lt_of_lt_of_le hv4 (Nat.pow_le_pow_right (by omega) (by omega)))) zTake zFsub ?_
        rintro _ L' F' ⟨u5, rfl, rfl, rfl⟩
        refine l_isList (.head _) fun hsu5 => ?_
        all_goals ((try refine zD3 ?_) <;> (repeat' (with_reducible first | refine And.intro ?_ ?_ | intro _)))
        refine l_callM rfl rfl zEvs rfl (l01Pick_spec pe b vc code hb hl _ _ _ hpl hul0 hul1) zTake zFsub fun i => ?_
        obtain ⟨⟨e, he⟩, s7⟩ := i
        try dsimp only
        unfold pe at he
        have hv5 : (sg * (w.natAbs : Int)).natAbs < 2 ^ 61 := by rw [(sgn_pm hsg).2]; exact hv4
        all_goals ((try refine zD3 ?_) <;> (repeat' (with_reducible first | refine And.intro ?_ ?_ | intro _)))
        refine l_call rfl zEvs rfl (l03MakeN_spec u5 _ e (Nat.lt_of_lt_of_le hv5 (Nat.pow_le_pow_right (by omega) (by omega))) (by omega)) zTake zFsub ?_
        rintro _ L' F' ⟨u6, rfl, rfl, rfl⟩
        refine l_isList (.head _) fun hsu6 => ?_
        all_goals ((try refine zD3 ?_) <;> (repeat' (with_reducible first | refine And.intro ?_ ?_ | intro _)))
        exact e_pmF ⟨(((nv (sg * (w.natAbs : Int)), ne (sg * (w.natAbs : Int)) e), u6), s7), nv_b hv5 (by omega), ne_b hv5 (a := 5000) (by omega) (by omega), hsu6⟩ rfl zRes zTake zFsub rfl
    · skip
      refine l_litP pe rfl rfl zEvs rfl rfl rfl (by repeat (first | exact PL.nil | refine PL.cons (by exact (show _ ∧ _ from by decide)) ?_)) rfl rfl fun v us hsv hpl hul0 hul1 => ?_
      all_goals ((try refine zD3 ?_) <;> (repeat' (with_reducible first | refine And.intro ?_ ?_ | intro _)))
      refine l_pick2 psg b vc code hb hl (.inl rfl) (.inr rfl) rfl rfl zEvs rfl zEra zTake zMem fun i => ?_
      obtain ⟨⟨sg, hsg⟩, s6⟩ := i
      try dsimp only
      all_goals ((try refine zD3 ?_) <;> (repeat' (with_reducible first | refine And.intro ?_ ?_ | intro _)))
      refine l_call rfl zEvs rfl (l02MakeS_spec sg hsg u4 w (Nat.lt_of_lt_of_le hv4 (Nat.pow_le_pow_right (by omega) (by omega)))) zTake zFsub ?_
      rintro _ L' F' ⟨u5, rfl, rfl, rfl⟩
      refine l_isList (.head _) fun hsu5 => ?_
      all_goals ((try refine zD3 ?_) <;> (repeat' (with_reducible first | refine And.intro ?_ ?_ | intro _)))
      refine l_callM rfl rfl zEvs rfl (l01Pick_spec pe b vc code hb hl _ _ _ hpl hul0 hul1) zTake zFsub fun i => ?_
      obtain ⟨⟨e, he⟩, s7⟩ := i
      try dsimp only
      unfold pe at he
      have hv5 : (sg * (w.natAbs : Int)).natAbs < 2 ^ 61 := by rw [(sgn_pm hsg).2]; exact hv4
      all_goals ((try refine zD3 ?_) <;> (repeat' (with_reducible first | refine And.intro ?_ ?_ | intro _)))
      refine l_call rfl zEvs rfl (l03MakeN_spec u5 _ e (Nat.lt_of_lt_of_le hv5 (Nat.pow_le_pow_right (by omega) (by omega))) (by omega)) zTake zFsub ?_
      rintro _ L' F' ⟨u6, rfl, rfl, rfl⟩
      refine l_isList (.head _) fun hsu6 => ?_
      all_goals ((try refine zD3 ?_) <;> (repeat' (with_reducible first | refine And.intro ?_ ?_ | intro _)))
      exact e_pmF ⟨(((nv (sg * (w.natAbs : Int)), ne (sg * (w.natAbs : Int)) e), u6), s7), nv_b hv5 (by omega), ne_b hv5 (a := 5000) (by omega) (by omega), hsu6⟩ rfl zRes zTake zFsub rfl
  · all_goals (((try refine zR3 ?_) <;> (repeat' (with_reducible first | refine And.intro ?_ ?_ | intro _))) <;> (repeat' ((first | (refine l_pickI p16 b vc code hb hl rfl rfl zEvs rfl rfl rfl (by repeat (first | exact PL.nil | refine PL.cons (by exact (show _ ∧ _ from by decide)) ?_)) rfl rfl (fun _ => rfl) (fun _ => rfl) (fun _ => zEvs) rfl zTake zMem fun _ _ => ?_)) <;> ((try refine zR3 ?_) <;> (repeat' (with_reducible first | refine And.intro ?_ ?_ | intro _))))))
    rename_i i
    obtain ⟨⟨k, hk⟩, s2⟩ := i
    try dsimp only
    refine l_callMF rfl rfl zEvs rfl (l02Draw_spec b vc code hb hl s2 k hk) zTake zFsub fun i => ?_
    obtain ⟨⟨⟨v, u⟩, s3⟩, hv, hsu⟩ := i
    dsimp only at hv hsu ⊢
    all_goals (((try refine zR3 ?_) <;> (repeat' (with_reducible first | refine And.intro ?_ ?_ | intro _))) <;> (repeat' ((first | ((with_reducible apply l_callM); exact rfl; exact rfl; exact zEvs; exact rfl; (apply hN); (case hL => exact zTake); (case hF => exact zFsub); (try any_goals (refine propId ?_; first | omega | exact zLt)); (with_reducible intro _)) | (refine l_pickI pe b vc code hb hl rfl rfl zEvs rfl rfl rfl (by repeat (first | exact PL.nil | refine PL.cons (by first | exact pe_200 _ | exact pe_4000 _ | exact pe_9000 _ | exact (show _ ∧ _ from by decide)) ?_)) rfl rfl (fun _ => rfl) (fun _ => rfl) (fun _ => zEvs) rfl zTake zMem fun _ _ => ?_)) <;> ((try refine zR3 ?_) <;> (repeat' (with_reducible first | refine And.intro ?_ ?_ | intro _))))))
    rename_i i
    obtain ⟨⟨e, he⟩, s7⟩ := i
    try dsimp only
    unfold pe at he
    refine l_call rfl zEvs rfl (l03MakeN_spec u v e (Nat.lt_of_lt_of_le hv (Nat.pow_le_pow_right (by omega) (by omega))) (by omega)) zTake zFsub ?_
    rintro _ L' F' ⟨u6, rfl, rfl, rfl⟩
    refine l_isList (.head _) fun hsu6 => ?_
    all_goals ((try refine zR3 ?_) <;> (repeat' (with_reducible first | refine And.intro ?_ ?_ | intro _)))
    exact e_pmF ⟨(((nv v, ne v e), u6), s7), nv_b hv (by omega), ne_b hv (a := 5000) (by omega) (by omega), hsu6⟩ rfl zRes zTake zFsub rfl
end Go.Proofs.YtbllgmcpebifhaaGreatDoor.K
end
