/- Bridges for the seat of doubles: places, ends, rows. -/
import Derived.Test.YtbllgmcpebifhaaGreatDoorZQc

section
namespace Go.Proofs.YtbllgmcpebifhaaGreatDoor.K
open Go Go.RowKit
set_option linter.all false

abbrev pt (b : Nat) : Value := .pointer (some ⟨b, 0, none⟩)
section
variable {G : Ctx} {n : Nat} {m : Regs} {L L1 Lr : List Own} {F : List Fact} {a : Act} {w : World} {Q : Post}
/-- What is owned may be named in another order, and left. -/
theorem St.taken (s : St G n m L F a w) (hT : Take L L1 Lr) : St G n m L1 F a w := by
  obtain ⟨t1, t2, t3, t4⟩ := hT.split
  obtain ⟨u1, u2, u3⟩ := t4 s.own.apart
  have kc : ∀ y, keys L1 y → keys L y := fun y ⟨o, ho, hy⟩ => ⟨o, t1 o ho, hy⟩
  refine ⟨s.env, s.keep, ⟨fun o ho => s.own.all o (t1 o ho), u1⟩, fun y hy => s.mine y (kc y hy), s.x, fun φ hφ => φ.stable (s.facts φ hφ) ⟨Nat.le_refl _, fun _ _ _ => rfl, fun y _ hy => ?_⟩⟩
  rcases hy with hy | hy
  · exact .inl hy
  · exact .inr (kc y hy)
theorem e_againT {ι : Type} {mI : ι → Regs} {LI : ι → List Own} {FI : ι → List Fact} {μ : ι → Nat} {k : Nat} (i' : ι) (hμ : μ i' < k) (hm : ∀ t v, look (mI i') t = some v → look m t = some v) (hL : Take L (LI i') Lr) (hF : ∀ φ, φ ∈ FI i' → φ ∈ F) :
    Ends G n (Exit.then (fun a w => ∃ i', μ i' < k ∧ St G n (mI i') (LI i') (FI i') a w) Q) .normal m L F :=
  fun _ _ s => ⟨i', hμ, (s.taken hL).sub hm hF⟩
theorem e_outT {κ : Type} {mE : κ → Regs} {LE : κ → List Own} {FE : κ → List Fact} (k : κ) (hm : ∀ t v, look (mE k) t = some v → look m t = some v) (hL : Take L (LE k) Lr) (hF : ∀ φ, φ ∈ FE k → φ ∈ F) :
    Ends G n (Exit.then (fun a w => ∃ k, St G n (mE k) (LE k) (FE k) a w) Q) .normal m L F :=
  fun _ _ s => ⟨k, (s.taken hL).sub hm hF⟩
theorem St.startT {m' : Regs} {F' : List Fact} (s : St G n m L F a w) (hm : ∀ t v, look m' t = some v → look m t = some v) (hL : Take L L1 Lr) (hF : ∀ φ, φ ∈ F' → φ ∈ F) : St G n m' L1 F' a w := (s.taken hL).sub hm hF
end
section
variable {G : Ctx} {n : Nat} {P : Program} {ops : Array Oper} {Q : Post} {rest : List Oper} {m : Regs} {L L' : List Own} {F : List Fact} {d : Nat} {ty : TypeId} {pos : String} {af : Array Edge} {g : Option (Nat × Bool)} {v : Value} {LF : Value → List Own}
end
theorem ends_isRowQ {G : Ctx} {n : Nat} {Q : Post} {m : Regs} {L : List Own} {F : List Fact} {e : Exit} {v : Value} {s : Nat} {E : TypeId} {N : Nat} {xs : List Value} (hB : Has L F (.row v E s N xs)) (h : IsSl v → Ends G n Q e m L F) : Ends G n Q e m L F := fun a w st => h (isSl_row (hB.holds st)) a w st
end Go.Proofs.YtbllgmcpebifhaaGreatDoor.K
end

section
/- The draws. -/
namespace Go.Proofs.YtbllgmcpebifhaaGreatDoor.K
open Go Go.RowKit
set_option linter.all false
set_option maxRecDepth 4000
set_option maxHeartbeats 1000000

/-- A source's place and its hash. -/
abbrev Seed (N : Nat) : Type := {s : Int × Int // 0 ≤ s.1 ∧ s.1 ≤ (N : Int) ∧ 0 ≤ s.2 ∧ s.2 < 18446744073709551616}
abbrev oSrc {N : Nat} (b : Nat) (vc : Value) (s : Seed N) : Own := .box b [vc, .int .i64 s.1.1, .int .u64 s.1.2] 166
abbrev fCode (vc : Value) (code : List Int) : Fact := fList 1 (rInt .u8) vc code
def Bytes (code : List Int) : Prop := ∀ x ∈ code, 0 ≤ x ∧ x < 256
abbrev NextR (n : Int) : Type := {x : Int // 0 ≤ x ∧ (n < 1 → x = 0) ∧ (1 ≤ n → x < n)}
section
variable {G : Ctx} {nt : Nat} {P : Program} {ops : Array Oper} {Q : Post} {rest : List Oper} {m : Regs} {L L' : List Own} {F : List Fact} {d : Nat} {ty : TypeId} {pos : String} {af : Array Edge} {g : Option (Nat × Bool)}
theorem l_remAny {t yt : TypeId} {a c : Operand} {k : IntKind} {x n : Int} (hw : wantG ops m g = some true) (hx : ev m a = some (.int k x)) (hy : ev m c = some (.int k n)) (hd : Nat.blt d nt = true) (hn : 1 ≤ n) (h0 : 0 ≤ x)
    (h : ∀ r : Int, 0 ≤ r → r < n → RunL G nt P ops Q rest ((d, .int k r) :: m) L F) : RunL G nt P ops Q (⟨some d, .binOp .rem t a c yt, ty, pos, af, g⟩ :: rest) m L F :=
  l_rem hw hx hy hd (by omega) (Int.tmod_eq_emod_of_nonneg h0) (h _ (Int.emod_nonneg _ (by omega)) (Int.emod_lt_of_pos _ (by omega)))
end
theorem l01Next_spec (b : Nat) (vc : Value) (code : List Int) (hb : Bytes code) (hl : code.length ≤ 100000) (s : Seed code.length) (n : Int) (hn : n < 4611686018427387904 ∧ -4611686018427387904 < n) : Spec Tryz.prog 70 [pt b, .int .i64 n] [oSrc b vc s] [fCode vc code] (PM (fun i : NextR n × Seed code.length => .int .i64 i.1.1) fun i => [oSrc b vc i.2]) := by
  refine enter Tryz.func70 Tryz.ntmps70 rfl (by kernel_rfl) zCon rfl fun G => ?_
  refine c_isList (v := vc) zMem fun hsp => ?_
  refine c_lenList (v := vc) zMem fun hll => ?_
  obtain ⟨z1, hz1⟩ : ∃ z, IntKind.u64.wrap (s.1.2 * 6364136223846793005) = z := ⟨_, rfl⟩
  all_goals ((try refine zR3 ?_) <;> (repeat' (with_reducible first | refine And.intro ?_ ?_ | intro _)))
  · exact e_pm (⟨0, by omega, fun _ => rfl, fun h => by omega⟩, s) rfl zRes zTake rfl
  · have hn1 : 1 ≤ n := by omega
    have hs := s.2
    generalize hh : (z1 + 1442695040888963407) % 18446744073709551616 = h2
    have hr : 0 ≤ h2 ∧ h2 < 18446744073709551616 := by omega
    obtain ⟨y, hy, hy0, hy1⟩ : ∃ y : Int, h2.fdiv (2 ^ (min (33 : Int).toNat IntKind.u64.bits)) = y ∧ 0 ≤ y ∧ y < 18446744073709551616 := by
      have e : (2 : Int) ^ (min (33 : Int).toNat IntKind.u64.bits) = 8589934592 := by decide
      refine ⟨_, rfl, ?_, ?_⟩ <;> rw [e, Int.fdiv_eq_ediv_of_nonneg _ (by decide)] <;> omega
    obtain ⟨z2, hz2, hz20, hz21⟩ : ∃ z2 : Int, bits .and .u64 y 16777215 = z2 ∧ 0 ≤ z2 ∧ z2 ≤ 16777215 := by
      refine ⟨_, rfl, ?_, ?_⟩ <;> rw [u64_and _ _ hy0 hy1 (by decide) (by decide)]
      · omega
      · have := Nat.and_le_right (n := y.toNat) (m := (16777215 : Int).toNat)
        have e : (16777215 : Int).toNat = 16777215 := rfl
        rw [e] at this ⊢
        omega
    refine l_shr rfl rfl rfl rfl (by decide) hy ?_
    have hat : s.1.1 < (code.length : Int) → ∃ w, code[s.1.1.toNat]? = some w ∧ 0 ≤ w ∧ w < 256 := fun h => by
      obtain ⟨w, hw⟩ : ∃ w, code[s.1.1.toNat]? = some w := ⟨_, List.getElem?_eq_getElem (by omega)⟩
      exact ⟨w, hw, hb w (List.mem_of_getElem? hw)⟩
    obtain ⟨k, hk⟩ : ∃ k : Nat, s.1.1 = (k : Int) := ⟨s.1.1.toNat, by omega⟩
    rw [hk] at hat hs ⊢
    by_cases hlt : (k : Int) < (code.length : Int)
    · obtain ⟨w, hw, hw0, hw1⟩ := hat hlt
      rw [Int.toNat_natCast] at hw
      all_goals ((try refine zR3 ?_) <;> (repeat' (with_reducible first | refine And.intro ?_ ?_ | intro _)))
      refine c_draw ([], []) [.box b [vc, .int .i64 (k : Int), .int .u64 h2] 166] [0, 1, 2, 3, 4, 5, 6, 7, 8, 9] (by kernel_rfl) (by kernel_rfl) ?_
      all_goals ((try refine zD3 ?_) <;> (repeat' (with_reducible first | refine And.intro ?_ ?_ | intro _)))
      all_goals (first | (exfalso; omega) | skip)
      refine c_draw ([13], []) [.box b [vc, .int .i64 (k : Int), .int .u64 h2] 166] [0, 1, 2, 3, 4, 5, 6, 7, 8, 9, 10, 11, 12, 13] (by kernel_rfl) (by kernel_rfl) ?_
      all_goals ((try refine zD3 ?_) <;> (repeat' (with_reducible first | refine And.intro ?_ ?_ | intro _)))
      refine l_remAny rfl rfl rfl rfl (x := z2 + w) (n := n) (by omega) (by omega) fun r hr0 hr1 => ?_
      all_goals ((try refine zR3 ?_) <;> (repeat' (with_reducible first | refine And.intro ?_ ?_ | intro _)))
      exact e_pm (⟨r, by omega, fun h => by omega, fun _ => hr1⟩, ⟨((k : Int) + 1, h2), by dsimp only; omega⟩) rfl zRes zTake rfl
    · all_goals ((try refine zR3 ?_) <;> (repeat' (with_reducible first | refine And.intro ?_ ?_ | intro _)))
      refine c_draw ([], []) [.box b [vc, .int .i64 (k : Int), .int .u64 h2] 166] [0, 1, 2, 3, 4, 5, 6, 7, 8, 9] (by kernel_rfl) (by kernel_rfl) ?_
      all_goals ((try refine zD3 ?_) <;> (repeat' (with_reducible first | refine And.intro ?_ ?_ | intro _)))
      all_goals (first | (exfalso; omega) | skip)
      refine l_remAny rfl rfl rfl rfl (x := z2) (n := n) (by omega) (by omega) fun r hr0 hr1 => ?_
      all_goals ((try refine zR3 ?_) <;> (repeat' (with_reducible first | refine And.intro ?_ ?_ | intro _)))
      exact e_pm (⟨r, by omega, fun h => by omega, fun _ => hr1⟩, ⟨((k : Int), h2), by dsimp only; omega⟩) rfl zRes zTake rfl
end Go.Proofs.YtbllgmcpebifhaaGreatDoor.K
end

section
/- The draws: lists of numbers, scales, floats. -/
namespace Go.Proofs.YtbllgmcpebifhaaGreatDoor.K
open Go Go.RowKit
set_option linter.all false
set_option maxRecDepth 4000
set_option maxHeartbeats 1000000

/-- One-cell values. -/
def rRaw : Rep Value := ⟨fun x cs _ _ => cs = [x], fun h _ => h⟩
section
variable {G : Ctx} {n : Nat} {P : Program} {ops : Array Oper} {Q : Post} {rest : List Oper} {m : Regs} {L L' : List Own} {F : List Fact} {d : Nat} {ty : TypeId} {pos : String} {af : Array Edge} {g : Option (Nat × Bool)} {v : Value}
theorem fill_lit : ∀ (vs : List Value) (j : Nat) (c : List Value), (∀ x ∈ vs, x.cells = #[x]) → j + vs.length = c.length → Instr.fill (fun i => some (i * 1, 1)) c.toArray ((List.range' j vs.length).zip vs) = some (c.take j ++ vs).toArray
  | [], j, c, _, h => by simp at h; simp [Instr.fill, h]
  | x :: r, j, c, hx, h => by
    have h1 : x.cells = #[x] := hx x (.head _)
    have h2 : j < c.length := by simp at h; omega
    simp only [List.length_cons, List.range'_succ, List.zip_cons_cons, Instr.fill, h1]
    have e1 : (#[x].size ≠ 1 || decide (j * 1 + #[x].size > c.toArray.size)) = false := by simp; omega
    rw [if_neg (by rw [e1]; simp)]
    have e2 : (#[x].zipIdx.foldl (fun cs (y : Value × Nat) => cs.setIfInBounds (j * 1 + y.2) y.1) c.toArray) = (c.set j x).toArray := by
      simp
    refine Eq.trans (congrArg (fun z => Instr.fill (fun i => some (i * 1, 1)) z ((List.range' (j + 1) r.length).zip r)) e2) ?_
    rw [fill_lit r (j + 1) (c.set j x) (fun y hy => hx y (.tail _ hy)) (by simp at h ⊢; omega)]
    congr 2
    rw [List.take_set, List.take_succ_eq_append_getElem h2, List.set_append_right _ _ (by simp; omega)]
    have : (List.take j c).length = j := by simp; omega
    rw [this, Nat.sub_self]
    simp
theorem zip_parts : ∀ (l : List (Nat × Operand)) (k : Nat), l.map (·.1) = List.range' k l.length → l = (List.range' k l.length).zip (l.map (·.2))
  | [], _, _ => rfl
  | p :: r, k, h => by
    simp only [List.map_cons, List.length_cons, List.range'_succ, List.cons.injEq] at h
    simp only [List.map_cons, List.length_cons, List.range'_succ, List.zip_cons_cons]
    rw [← zip_parts r (k + 1) h.2, ← h.1]
theorem l_litN {t e : TypeId} {z : Value} {by' : Nat} [u : Und P t (.slice e)] [f : Inf P e z 1 by'] {k : Nat} {parts : Array (Nat × Operand)} {vs : List Value} (hw : wantG ops m g = some true) (hd : Nat.blt d n = true) (hv : Evs m (parts.toList.map (·.2)) vs) (hp : parts.toList.map (·.1) = List.range' 0 k) (hk : vs.length = k)
    (hz : z.cells = #[z]) (h1 : ∀ x ∈ vs, x.cells = #[x]) (hk0 : Nat.blt k 1000 = true)
    (h : ∀ v, RunL G n P ops Q rest ((d, v) :: m) (.row v e 1 k vs :: L) F) : RunL G n P ops Q (⟨some d, .buildSlice t k parts, ty, pos, af, g⟩ :: rest) m L F := by
  have hk1 : k < 1000 := Nat.le_of_ble_eq_true hk0
  have hlen : parts.toList.length = k := by have := congrArg List.length hp; simpa using this
  have hp' := zip_parts parts.toList 0 (by rw [hp, hlen])
  rw [hlen] at hp'
  subst hk
  refine l_lit (pv := (List.range' 0 vs.length).zip vs) (cs := vs) hw hd (fun a he => ?_) (by omega) ?_ (by omega) (by omega) h
  · rw [hp', ← hv.map he]
    simp [List.zip_map_right]
  · have e : ∀ c : Array Value, c.size = vs.length → Instr.fill (fun i => some (i * 1, 1)) c ((List.range' 0 vs.length).zip vs) = some vs.toArray := fun c hc => by
      have := fill_lit vs 0 c.toList h1 (by simpa using hc.symm)
      simpa using this
    exact e _ (by simp)
theorem l_loadRaw {t : TypeId} {D : TypeDesc} {x : Operand} {k : Nat} {y : Value} {l : List Value} [u : Und P t D] (hw : wantG ops m g = some true) (hx : ev m x = some (elemPtr v k)) (hF : fList 1 rRaw v l ∈ F) (hD : aggD D = false) (hy : l[k]? = some y) (hd : Nat.blt d n = true)
    (h : RunL G n P ops Q rest ((d, y) :: m) L F) : RunL G n P ops Q (⟨some d, .load t x, ty, pos, af, g⟩ :: rest) m L F :=
  l_loadList hw hx hF hD hy hd fun c a w st => by
    have hc : [c] = [y] := st.facts _ (.head _)
    injection hc with hc
    subst hc
    exact h a w (st.sub (fun _ _ h => h) fun φ h => .tail _ h)
theorem l_frzRaw {E : TypeId} {N : Nat} {vs : List Value} (he : Era L (.row v E 1 N vs) L') (h : RunL G n P ops Q rest m L' (fList 1 rRaw v vs :: F)) : RunL G n P ops Q rest m L F := fun a w st =>
  h a w (st.freeze he (by have := (st.own.all _ he.mem : w.ownsRow 0 E 1 v N vs).1; simpa using this.symm) (fun w M _ i x hx => by
    have hi := List.getElem?_eq_some_iff.1 hx
    show (vs.drop (i * 1)).take 1 = [x]
    rw [Nat.mul_one, List.drop_eq_getElem_cons hi.1]
    simp [hi.2]))
end
/-- Numbers of a kind. -/
inductive PL (p : Int → Prop) : List Value → Prop
  | nil : PL p []
  | cons {z : Int} {r : List Value} : p z → PL p r → PL p (.int .i64 z :: r)
theorem PL.get {p : Int → Prop} {l : List Value} (h : PL p l) : ∀ {k : Nat} {y : Value}, l[k]? = some y → ∃ z, y = .int .i64 z ∧ p z := by
  induction h with
  | nil => intro k y h; simp at h
  | cons hz _ ih =>
    intro k y h
    cases k with
    | zero => injection h with h; exact ⟨_, h.symm, hz⟩
    | succ k => exact ih h
theorem PL.ones {p : Int → Prop} {l : List Value} (h : PL p l) : ∀ x ∈ l, x.cells = #[x] := by
  induction h with
  | nil => intro x h; cases h
  | cons _ _ ih => intro x h; cases h with
    | head => rfl
    | tail _ h => exact ih x h
def InI (z : Int) : Prop := -9223372036854775808 ≤ z ∧ z ≤ 9223372036854775807
theorem l01Pick_spec (p : Int → Prop) (b : Nat) (vc : Value) (code : List Int) (hb : Bytes code) (hl : code.length ≤ 100000) (s : Seed code.length) (v : Value) (vs : List Value) (hvs : PL p vs) (h0 : 0 < vs.length) (h1 : vs.length < 1000) : Spec Tryz.prog 107 [pt b, v] [oSrc b vc s] [fCode vc code, fList 1 rRaw v vs] (PM (fun i : {x : Int // p x} × Seed code.length => .int .i64 i.1.1) fun i => [oSrc b vc i.2]) := by
  refine enter Tryz.func107 Tryz.ntmps107 rfl (by kernel_rfl) zCon rfl fun G => ?_
  refine c_isList (v := v) zMem fun hsp => ?_
  refine c_lenList (v := v) zMem fun hlv => ?_
  all_goals ((try refine zR3 ?_) <;> (repeat' (with_reducible first | refine And.intro ?_ ?_ | intro _)))
  refine l_callM rfl rfl zEvs rfl (l01Next_spec b vc code hb hl s (vs.length : Int) (by omega)) zTake zFsub fun i => ?_
  obtain ⟨⟨x, hx0, hx1, hx2⟩, s1⟩ := i
  dsimp only
  have hx3 := hx2 (by omega)
  obtain ⟨k, hk⟩ : ∃ k : Nat, x = (k : Int) := ⟨x.toNat, by omega⟩
  subst hk
  obtain ⟨y, hy⟩ : ∃ y, vs[k]? = some y := ⟨_, List.getElem?_eq_getElem (by omega)⟩
  obtain ⟨z, rfl, hz⟩ := hvs.get hy
  all_goals ((try refine zR3 ?_) <;> (repeat' (with_reducible first | refine And.intro ?_ ?_ | intro _)))
  refine l_loadRaw rfl rfl zMem rfl hy rfl ?_
  all_goals ((try refine zR3 ?_) <;> (repeat' (with_reducible first | refine And.intro ?_ ?_ | intro _)))
  exact e_pm (⟨z, hz⟩, s1) rfl zRes zTake rfl
/-- A literal of whole numbers is built and one of them is picked. -/
theorem l_pickI {G : Ctx} {n : Nat} {ops : Array Oper} {Q : Post} {rest : List Oper} {m : Regs} {L Lr : List Own} {F : List Fact} {d : Nat} {ty : TypeId} {pos : String} {af : Array Edge} {g : Option (Nat × Bool)}
    {t e : TypeId} {z : Value} {by' : Nat} [u : Und Tryz.prog t (.slice e)] [f : Inf Tryz.prog e z 1 by'] {k : Nat} {parts : Array (Nat × Operand)} {vs : List Value} {d2 : Nat} {ty2 : TypeId} {pos2 : String} {af2 : Array Edge} {g2 : Option (Nat × Bool)} {x : Operand} {xs : List Operand} {ts : Array TypeId}
    (p : Int → Prop) (b : Nat) (vc : Value) (code : List Int) (hb : Bytes code) (hl : code.length ≤ 100000) {s : Seed code.length}
    (hw : wantG ops m g = some true) (hd : Nat.blt d n = true) (hv : Evs m (parts.toList.map (·.2)) vs) (hp : parts.toList.map (·.1) = List.range' 0 k) (hk : vs.length = k) (hz : z.cells = #[z]) (hpl : PL p vs) (hk0 : Nat.blt 0 k = true) (hk1 : Nat.blt k 1000 = true)
    (hw2 : ∀ v, wantG ops ((d, v) :: m) g2 = some true) (hx : ∀ v, ev ((d, v) :: m) x = some (.func (.func 107) #[] #[])) (hv2 : ∀ v, Evs ((d, v) :: m) xs [pt b, v]) (hd2 : Nat.blt d2 n = true) (hL : Take L [oSrc b vc s] Lr) (hF : fCode vc code ∈ F)
    (h : ∀ (v : Value) (i : {x : Int // p x} × Seed code.length), RunL G n Tryz.prog ops Q rest ((d2, .int .i64 i.1.1) :: (d, v) :: m) (oSrc b vc i.2 :: Lr) (fList 1 rRaw v vs :: F)) :
    RunL G n Tryz.prog ops Q (⟨some d, .buildSlice t k parts, ty, pos, af, g⟩ :: ⟨some d2, .call ⟨.value x, xs.toArray, ts⟩, ty2, pos2, af2, g2⟩ :: rest) m L F := by
  refine l_litN hw hd hv hp hk hz hpl.ones hk1 fun v => ?_
  refine l_frzRaw .head ?_
  have h0 := Nat.le_of_ble_eq_true hk0
  have h1 := Nat.le_of_ble_eq_true hk1
  refine l_callM (hw2 v) (hx v) (hv2 v) hd2 (l01Pick_spec p b vc code hb hl s v vs hpl (by omega) (by omega)) hL (fun φ hφ => ?_) fun i => h v i
  rcases List.mem_cons.1 hφ with rfl | hφ
  · exact .tail _ hF
  · cases hφ with
    | head => exact .head _
    | tail _ h => cases h
end Go.Proofs.YtbllgmcpebifhaaGreatDoor.K
end

section
/- The draws: floats and numbers. -/
namespace Go.Proofs.YtbllgmcpebifhaaGreatDoor.K
open Go Go.RowKit
set_option linter.all false
set_option maxRecDepth 4000
set_option maxHeartbeats 1000000

end Go.Proofs.YtbllgmcpebifhaaGreatDoor.K
end

section
/- The draws: the source. -/
namespace Go.Proofs.YtbllgmcpebifhaaGreatDoor.K
open Go Go.RowKit
set_option linter.all false
set_option maxRecDepth 60000
set_option maxHeartbeats 1000000

theorem l01From_spec (vc : Value) (code : List Int) (hb : Bytes code) (hl : code.length ≤ 100000) : Spec Tryz.prog 69 [vc] [] [fCode vc code] (PM (fun i : Nat × Seed code.length => pt i.1) fun i => [oSrc i.1 vc i.2]) := by
  refine enter Tryz.func69 Tryz.ntmps69 rfl (by kernel_rfl) zCon rfl fun G => ?_
  refine c_isList (v := vc) zMem fun hsp => ?_
  refine c_lenList (v := vc) zMem fun hll => ?_
  all_goals ((try refine zR3 ?_) <;> (repeat' (with_reducible first | refine And.intro ?_ ?_ | intro _)))
  rename_i b
  refine c_while (ι := {s : Nat × Int // s.1 ≤ code.length ∧ 0 ≤ s.2 ∧ s.2 < 18446744073709551616}) (κ := {h : Int // 0 ≤ h ∧ h < 18446744073709551616})
    (fun s => [(4, .int .i64 (s.1.1 : Int)), (3, pt b), (0, vc)]) (fun s => [.box b [vc, .int .i64 0, .int .u64 s.1.2] 166]) (fun _ => [fCode vc code]) (fun s => code.length - s.1.1)
    (fun _ => [(3, pt b), (0, vc)]) (fun s => [.box b [vc, .int .i64 0, .int .u64 s.1] 166]) (fun _ => [fCode vc code]) ⟨(0, 6737 + (code.length : Int)), Nat.zero_le _, by dsimp only; omega⟩ (fun _ _ s => s.start zSub zRfl zFsub) ?_ ?_
  · rintro ⟨⟨i, h⟩, hi, h0, h1⟩
    dsimp only at hi h0 h1 ⊢
    by_cases hlt : i < code.length
    · obtain ⟨w, hw⟩ : ∃ w, code[i]? = some w := ⟨_, List.getElem?_eq_getElem hlt⟩
      obtain ⟨hw0, hw1⟩ := hb w (List.mem_of_getElem? hw)
      obtain ⟨z1, hz1⟩ : ∃ z, IntKind.u64.wrap (h * 1099511628211) = z := ⟨_, rfl⟩
      all_goals ((try refine zR3 ?_) <;> (repeat' (with_reducible first | refine And.intro ?_ ?_ | intro _)))
      all_goals (first | (exfalso; omega) | skip)
      · refine c_draw ([15], []) [.box b [vc, .int .i64 0, .int .u64 h] 166] [0, 1, 2, 3, 4, 5, 6, 7, 8, 9, 10, 11, 12, 13, 14, 15] (by kernel_rfl) (by kernel_rfl) ?_
        all_goals ((try refine zD3 ?_) <;> (repeat' (with_reducible first | refine And.intro ?_ ?_ | intro _)))
        have hz : 0 ≤ z1 ∧ z1 < 18446744073709551616 := by rw [← hz1, IntKind.wrap_u64]; omega
        exact e_again ⟨(i + 1, ((z1 + w) % 18446744073709551616 + 11) % 18446744073709551616), by omega, by dsimp only; omega⟩ (by dsimp only; omega) zSub rfl zFsub
      · exact e_out ⟨h, h0, h1⟩ zSub rfl zFsub
    · all_goals ((try refine zR3 ?_) <;> (repeat' (with_reducible first | refine And.intro ?_ ?_ | intro _)))
      all_goals (first | (exfalso; omega) | skip)
      exact e_out ⟨h, h0, h1⟩ zSub rfl zFsub
  · rintro ⟨h, h0, h1⟩
    all_goals ((try refine zR3 ?_) <;> (repeat' (with_reducible first | refine And.intro ?_ ?_ | intro _)))
    exact e_pm (b, ⟨(0, h), by dsimp only; omega⟩) rfl zRes zTake rfl
end Go.Proofs.YtbllgmcpebifhaaGreatDoor.K
end

section
/- The draws of moderate numbers and of points. -/
namespace Go.Proofs.YtbllgmcpebifhaaGreatDoor.K
open Go Go.RowKit
set_option linter.all false
set_option maxRecDepth 4000
set_option maxHeartbeats 1000000

end Go.Proofs.YtbllgmcpebifhaaGreatDoor.K
end

section
/- The draw of clusters. -/
namespace Go.Proofs.YtbllgmcpebifhaaGreatDoor.K
open Go Go.RowKit
set_option linter.all false
set_option maxRecDepth 4000
set_option maxHeartbeats 1000000

section
variable {G : Ctx} {n : Nat} {P : Program} {ops : Array Oper} {Q : Post} {rest : List Oper} {m : Regs} {L L' : List Own} {F : List Fact} {d : Nat} {ty : TypeId} {pos : String} {af : Array Edge} {g : Option (Nat × Bool)} {v : Value}
end
section
variable {G : Ctx} {n : Nat} {P : Program} {ops : Array Oper} {Q : Post} {cl : List Nat × List Nat} {L0 : List Own} {m : Regs} {L : List Own} {F : List Fact}
end
end Go.Proofs.YtbllgmcpebifhaaGreatDoor.K
end
