/- The engine, part i: bytes and strings. -/
import Derived.Test.YtbllgmcpebifhaaDoorKh
import Derived.Laws.BytesArg
import Derived.Lib.ItoaMem
import Derived.Lib.Strings
import Derived.Lib.ItoaLen
namespace Go.Proofs.YtbllgmcpebifhaaDoor.K
open Go Go.RowKit
set_option linter.all false


section
variable {G : Ctx} {n : Nat} {P : Program} {ops : Array Oper} {Q : Post} {rest : List Oper} {m : Regs} {L L' : List Own} {F : List Fact} {a : Act} {w w' : World}
variable {d : Nat} {ty : TypeId} {pos : String} {af : Array Edge} {g : Option (Nat × Bool)} {v : Value}

theorem l_lit1I {t e : TypeId} {z : Value} {by' : Nat} [u : Und P t (.slice e)] [f : Inf P e z 1 by'] {x : Operand} {k : IntKind} {b : Int} (hw : wantG ops m g = some true) (hx : ev m x = some (.int k b)) (hd : Nat.blt d n = true) (hz : z.cells = #[z])
    (h : ∀ v, RunL G n P ops Q rest ((d, v) :: m) (.row v e 1 1 ([b].map (Value.int k)) :: L) F) : RunL G n P ops Q (⟨some d, .buildSlice t 1 #[(0, x)], ty, pos, af, g⟩ :: rest) m L F :=
  l_lit1 hw hx hd hz .int h

/-- string(bytes). -/
theorem l_strRow {src dst e : TypeId} [us : Und P src (.slice e)] [ue : Und P e (.int .u8)] [ud : Und P dst .string] {x : Operand} {E : TypeId} {N : Nat} {zs : List Int} (hw : wantG ops m g = some true) (hx : ev m x = some v) (hB : Has L F (.row v E 1 N (zs.map (Value.int .u8)))) (hd : Nat.blt d n = true)
    (h : RunL G n P ops Q rest ((d, .string ⟨(zs.map fun z => UInt8.ofNat z.toNat).toArray⟩) :: m) L F) : RunL G n P ops Q (⟨some d, .convert src dst x, ty, pos, af, g⟩ :: rest) m L F :=
  l_val _ hw hd (fun a w st => by
    have hr : w.ownsRow 0 E 1 v N (zs.map (Value.int .u8)) := hB.holds st
    have hlen : zs.length = N := by simpa using hr.1
    rcases hr.2 with ⟨hv, h0⟩ | ⟨b, cap, cur, hv, _, hh, q1, q2, q3, q4⟩
    · have : zs = [] := List.eq_nil_of_length_eq_zero (by omega)
      subst this
      have h1 := run_convert_bytes_nil (P := P) w src e us.out ue.out 0 0 dst ud.out
      simp only [execOp, st.env.eval hx, hv, Sem.run_bind, h1, Result.andThen_ok]
      rfl
    · have hc : ∀ i, i < N → w.cell? ⟨b, 0 + i, none⟩ = some (.int .u8 (zs.getD i 0)) := fun i hi => by
        have := World.ownsRow.cells hr (g := b) (by rw [hv]; rfl) i (.int .u8 (zs.getD i 0)) (by simp [List.getElem?_map, List.getD_eq_getElem?_getD, List.getElem?_eq_getElem (by omega : i < zs.length)])
        rw [add_at] at this
        exact this
      have h1 := run_convert_bytes_arg (P := P) w src e us.out ue.out b 0 N cap zs hlen hc dst ud.out
      simp only [execOp, st.env.eval hx, hv, Sem.run_bind, h1, Result.andThen_ok]
      rfl) h

theorem l_quoS {t yt : TypeId} {x y : Operand} {k : IntKind} {p q z : Int} (hw : wantG ops m g = some true) (hx : ev m x = some (.int k p)) (hy : ev m y = some (.int k q)) (hd : Nat.blt d n = true) (h0 : decide (q = 0) = false) (hz : p.tdiv q = z)
    (hz' : k.wrap z = z) (h : RunL G n P ops Q rest ((d, .int k z) :: m) L F) : RunL G n P ops Q (⟨some d, .binOp .quo t x y yt, ty, pos, af, g⟩ :: rest) m L F :=
  l_quo hw hx hy hd (of_decide_eq_false h0) (by rw [hz]; exact hz') h
theorem l_remS {t yt : TypeId} {x y : Operand} {k : IntKind} {p q z : Int} (hw : wantG ops m g = some true) (hx : ev m x = some (.int k p)) (hy : ev m y = some (.int k q)) (hd : Nat.blt d n = true) (h0 : decide (q = 0) = false) (hz : p.tmod q = z)
    (h : RunL G n P ops Q rest ((d, .int k z) :: m) L F) : RunL G n P ops Q (⟨some d, .binOp .rem t x y yt, ty, pos, af, g⟩ :: rest) m L F :=
  l_rem hw hx hy hd (of_decide_eq_false h0) hz h
theorem l_lenS {t : TypeId} {x : Operand} {p : List UInt8} (ht : P.underlying t = some .string) (hw : wantG ops m g = some true) (hx : ev m x = some (.string ⟨p.toArray⟩)) (hd : Nat.blt d n = true)
    (h : RunL G n P ops Q rest ((d, .int .i64 (p.length : Int)) :: m) L F) : RunL G n P ops Q (⟨some d, .call ⟨.builtin .len, #[x], #[t]⟩, ty, pos, af, g⟩ :: rest) m L F :=
  l_lenStr ht hw hx hd h
/-- The beginning of a row that holds a list. -/
theorem l_sliceMap {α : Type} {t e : TypeId} {z : Value} {by' : Nat} [u : Und P t (.slice e)] [f : Inf P e z 1 by'] {x : Operand} {hi : Option Operand} {j N : Nat} {l : List α} {fv : α → Value} {LF : Value → List Own} (hw : wantG ops m g = some true) (hx : ev m x = some v) (hhi : EvO m hi (some j)) (hd : Nat.blt d n = true)
    (hu : ∀ v', Upd L (.row v e 1 N (l.map fv)) (.row v' e 1 j ((l.take j).map fv)) (LF v')) (h2 : j ≤ N) (h : ∀ v', RunL G n P ops Q rest ((d, v') :: m) (LF v') F) :
    RunL G n P ops Q (⟨some d, .slice t x none hi none, ty, pos, af, g⟩ :: rest) m L F :=
  l_sliceRow hw hx hhi hd h2 (fun v' => by rw [Nat.mul_one, ← List.map_take]; exact hu v') h

theorem l_sliceTo {α : Type} {R : Rep α} {s : Nat} {l : List α} {t e : TypeId} {z : Value} {by' : Nat} [u : Und P t (.slice e)] [f : Inf P e z s by'] {x : Operand} {hi : Option Operand} {j : Nat} (hw : wantG ops m g = some true) (hx : ev m x = some v) (hF : fList s R v l ∈ F) (hhi : EvO m hi (some j)) (hd : Nat.blt d n = true)
    (h1 : j ≤ l.length) (h : ∀ v', RunL G n P ops Q rest ((d, v') :: m) L (fList s R v' (l.take j) :: F)) : RunL G n P ops Q (⟨some d, .slice t x none hi none, ty, pos, af, g⟩ :: rest) m L F :=
  l_sliceList (i := none) hw hx hF .none hhi hd (Nat.zero_le _) h1 h
theorem l_sliceFrom {α : Type} {R : Rep α} {s : Nat} {l : List α} {t e : TypeId} {z : Value} {by' : Nat} [u : Und P t (.slice e)] [f : Inf P e z s by'] {x : Operand} {lo : Option Operand} {i : Nat} (hw : wantG ops m g = some true) (hx : ev m x = some v) (hF : fList s R v l ∈ F) (hlo : EvO m lo (some i)) (hd : Nat.blt d n = true)
    (h1 : i ≤ l.length) (h : ∀ v', RunL G n P ops Q rest ((d, v') :: m) L (fList s R v' (l.drop i) :: F)) : RunL G n P ops Q (⟨some d, .slice t x lo none none, ty, pos, af, g⟩ :: rest) m L F :=
  l_sliceList (j := none) hw hx hF hlo .none hd h1 (Nat.le_refl _) fun v' => by
    have := h v'
    rwa [← List.take_length (l := l)] at this
/-- A byte of a string. -/
theorem l_indexS {t : TypeId} [u : Und P t .string] {x i : Operand} {p : List UInt8} {k : IntKind} {q : Int} {b : UInt8} (j : Nat) (hw : wantG ops m g = some true) (hx : ev m x = some (.string ⟨p.toArray⟩)) (hi : ev m i = some (.int k q)) (hd : Nat.blt d n = true)
    (hq : q = (j : Int)) (hb : p[j]? = some b) (h : RunL G n P ops Q rest ((d, .int .u8 (b.toNat : Int)) :: m) L F) : RunL G n P ops Q (⟨some d, .index t x i, ty, pos, af, g⟩ :: rest) m L F := by
  subst hq
  refine l_indexStr u.out hw hx hi hd (by omega) ?_ h
  obtain ⟨h1, h2⟩ := List.getElem?_eq_some_iff.1 hb
  rw [Int.toNat_natCast, getElem?_pos (⟨p.toArray⟩ : ByteArray) j (by simpa [ByteArray.size] using h1)]
  congr 1
theorem l_sliceSF {t : TypeId} [u : Und P t .string] {x : Operand} {lo : Option Operand} {i : Nat} {p : List UInt8} (hw : wantG ops m g = some true) (hx : ev m x = some (.string ⟨p.toArray⟩)) (hlo : EvO m lo (some i)) (hd : Nat.blt d n = true)
    (h1 : i ≤ p.length) (h : RunL G n P ops Q rest ((d, .string ⟨(p.drop i).toArray⟩) :: m) L F) : RunL G n P ops Q (⟨some d, .slice t x lo none none, ty, pos, af, g⟩ :: rest) m L F := by
  refine l_sliceStr (j := none) hw hx hlo .none hd (by simpa [ByteArray.size] using h1) (Nat.le_refl _) ?_
  have e : (⟨p.toArray⟩ : ByteArray).extract i (⟨p.toArray⟩ : ByteArray).size = ⟨(p.drop i).toArray⟩ := by
    rw [Go.Lib.extract_eq]
    have : (p.drop i).take (p.length - i) = p.drop i := List.take_of_length_le (by simp)
    simp only [ByteArray.size, List.size_toArray, this]
  simp only [Option.getD_some, Option.getD_none, e]
  exact h
theorem l_sliceST {t : TypeId} [u : Und P t .string] {x : Operand} {hi : Option Operand} {j : Nat} {p : List UInt8} (hw : wantG ops m g = some true) (hx : ev m x = some (.string ⟨p.toArray⟩)) (hhi : EvO m hi (some j)) (hd : Nat.blt d n = true)
    (h1 : j ≤ p.length) (h : RunL G n P ops Q rest ((d, .string ⟨(p.take j).toArray⟩) :: m) L F) : RunL G n P ops Q (⟨some d, .slice t x none hi none, ty, pos, af, g⟩ :: rest) m L F := by
  refine l_sliceStr (i := none) hw hx .none hhi hd (Nat.zero_le _) (by simpa [ByteArray.size] using h1) ?_
  have e : (⟨p.toArray⟩ : ByteArray).extract 0 j = ⟨(p.take j).toArray⟩ := by
    rw [Go.Lib.extract_eq]
    simp
  simp only [Option.getD_some, Option.getD_none, e]
  exact h
/-- An interface's value held against nil. -/
theorem run_equalIn_nil {t : TypeId} {I : Array (String × TypeId)} (ht : P.underlying t = some (.interface I)) (e : Nat) (w : World) : (Op.equalIn (e + 1) t .nilIface .nilIface).run P w = .ok true w := by
  simp [Op.equalIn, run_underlying ht]
theorem run_equalIn_iface {t : TypeId} {I : Array (String × TypeId)} (ht : P.underlying t = some (.interface I)) (e : Nat) (T : TypeId) (y : Value) (w : World) : (Op.equalIn (e + 1) t (.iface T y) .nilIface).run P w = .ok false w := by
  simp [Op.equalIn, run_underlying ht]
theorem l_neNil {t yt : TypeId} {I : Array (String × TypeId)} [u : Und P t (.interface I)] {x : Operand} {v : Value} {b : Bool} (hw : wantG ops m g = some true) (hx : ev m x = some v) (hd : Nat.blt d n = true) (hv : (v = .nilIface ∧ b = false) ∨ ((∃ T y, v = .iface T y) ∧ b = true))
    (h : RunL G n P ops Q rest ((d, .bool b) :: m) L F) : RunL G n P ops Q (⟨some d, .binOp .neq t x (.const .nilIface) yt, ty, pos, af, g⟩ :: rest) m L F :=
  l_bin hw hx rfl hd (fun w => by
    rcases hv with ⟨rfl, _⟩ | ⟨⟨T, y, rfl⟩, _⟩
    · simp [eqGuard]
    · simp [eqGuard]) (fun w => by
    rcases hv with ⟨rfl, rfl⟩ | ⟨⟨T, y, rfl⟩, rfl⟩
    · simp only [binOp]
      simp [Op.equal, Op.maxDepth, run_equalIn_nil u.out 9999 w]
    · simp only [binOp]
      simp [Op.equal, Op.maxDepth, run_equalIn_iface u.out 9999 T y w]) h
/-- Where a struct's fields lie. -/
inductive Pls (P : Program) : List Field → List (Nat × Nat) → Prop
  | nil : Pls P [] []
  | cons {nm : String} {ty off : Nat} {em : Bool} {tag pk : String} {bo : Nat} {z : Value} {size by' : Nat} {fs : List Field} {pl : List (Nat × Nat)} [i : Inf P ty z size by'] : Pls P fs pl → Pls P (⟨nm, ty, off, em, tag, pk, bo⟩ :: fs) ((off, size) :: pl)
theorem Pls.run {P : Program} {fs : List Field} {pl : List (Nat × Nat)} (h : Pls P fs pl) (w : World) : (fs.toArray.mapM fun f => do pure (f.offset, ← sizeOf f.type) : Sem (Array (Nat × Nat))).run P w = .ok pl.toArray w := by
  have : (fs.mapM fun f => do pure (f.offset, ← sizeOf f.type) : Sem (List (Nat × Nat))).run P w = .ok pl w := by
    induction h with
    | nil => simp
    | cons _ ih => rw [List.mapM_cons]; simp only [Sem.run_bind, run_sizeOf (by assumption), Result.andThen_ok, Sem.run_pure, ih]
  rw [List.mapM_toArray]
  simp only [Sem.run_map, this]
  rfl
theorem l_buildS {t : TypeId} {fs : List Field} {z : Value} {size bytes : Nat} [u : Und P t (.struct fs.toArray)] [f : Inf P t z size bytes] {parts : List (Nat × Operand)} {c c' : List Value} {pl : List (Nat × Nat)} (hw : wantG ops m g = some true) (hd : Nat.blt d n = true) (hz : Cells z c)
    (hpl : Pls P fs pl) (hf : Fill pl.toArray c parts m c') (h : RunL G n P ops Q rest ((d, .agg c'.toArray) :: m) L F) :
    RunL G n P ops Q (⟨some d, .build t parts.toArray, ty, pos, af, g⟩ :: rest) m L F := l_build hw hd hz (fun w => hpl.run w) hf h
/-- nil is an empty list. -/
theorem St.nilList {α : Type} {R : Rep α} {s : Nat} {a : Act} {w : World} (st : St G n m L F a w) : St G n m L (fList s R (.slice none 0 0) [] :: F) a w := st.fact (φ := fList s R (.slice none 0 0) []) (Or.inl ⟨⟨none, rfl⟩, rfl⟩ : ListAt s R (.slice none 0 0) [] w _)
theorem ends_nilInts {e : Exit} (ik : IntKind) (h : Ends G n Q e m L (fList 1 (rInt ik) (.slice none 0 0) [] :: F)) : Ends G n Q e m L F := fun a w st => h a w st.nilList
theorem l_nilInts (ik : IntKind) (h : RunL G n P ops Q rest m L (fList 1 (rInt ik) (.slice none 0 0) [] :: F)) : RunL G n P ops Q rest m L F := fun a w st => h a w st.nilList

/-- A loop that is left to the end of its block, in a state of the family told. -/
theorem c_while {c : Code} {i : Nat} {ι κ : Type} (mI : ι → Regs) (LI : ι → List Own) (FI : ι → List Fact) (μ : ι → Nat) (mE : κ → Regs) (LE : κ → List Own) (FE : κ → List Fact) (i0 : ι)
    (h0 : ∀ a w, St G n m L F a w → St G n (mI i0) (LI i0) (FI i0) a w)
    (round : ∀ x, RunC G n P c (Exit.then (fun a w => ∃ i', μ i' < μ x ∧ St G n (mI i') (LI i') (FI i') a w) (Exit.inBlock i (Exit.then (fun a w => ∃ k, St G n (mE k) (LE k) (FE k) a w) Q))) (mI x) (LI x) (FI x))
    (out : ∀ k, Ends G n Q .normal (mE k) (LE k) (FE k)) : RunC G n P (.loop c) (Exit.inBlock i Q) m L F := by
  refine c_loop mI LI FI μ i0 h0 fun x a w s => wp_mono (round x a w s) ?_
  intro e a' w' hq
  cases e with
  | normal => exact hq
  | exit j =>
    have hq : (if j = i then (∃ k, St G n (mE k) (LE k) (FE k) a' w') else Q (.exit j) a' w') := hq
    show (if j = i then Q .normal a' w' else Q (.exit j) a' w')
    split
    · rename_i h
      rw [if_pos h] at hq
      obtain ⟨k, s'⟩ := hq
      exact out k a' w' s'
    · rename_i h
      rw [if_neg h] at hq
      exact hq
  | _ => exact hq
/-- Two ways come together in a state of the family told. -/
theorem c_mid {x y : Code} {κ : Type} (mE : κ → Regs) (LE : κ → List Own) (FE : κ → List Fact) (hx : RunC G n P x (Exit.then (fun a w => ∃ k, St G n (mE k) (LE k) (FE k) a w) Q) m L F) (hy : ∀ k, RunC G n P y Q (mE k) (LE k) (FE k)) :
    RunC G n P x (Exit.then (fun a w => y.wp P Q a w) Q) m L F := by
  intro a w s
  refine wp_mono (hx a w s) ?_
  intro e a' w' hq
  cases e with
  | normal =>
    obtain ⟨k, s'⟩ := hq
    exact hy k a' w' s'
  | _ => exact hq
/-- What a register holds, said otherwise. -/
theorem c_say {c : Code} {t : Nat} {v v' : Value} (ht : look m t = some v) (hv : v = v') (h : RunC G n P c Q ((t, v') :: m) L F) : RunC G n P c Q m L F := by
  subst hv
  intro a w s
  refine h a w (s.sub (fun s u hs => ?_) fun _ h => h)
  rw [look_cons] at hs
  by_cases e : t = s
  · rw [if_pos e] at hs; rw [← e, ht]; exact hs
  · rw [if_neg e] at hs; exact hs
theorem takeAll (L : List Own) : Take L L [] := by
  induction L with
  | nil => exact .nil
  | cons o L ih => exact .cons .head ih

theorem take_skip {o : Own} {L Lc Lr : List Own} (h : Take L Lc Lr) : Take (o :: L) Lc (o :: Lr) := by
  induction h with
  | nil => exact .nil
  | cons he _ ih => exact .cons (.tail he) ih
theorem St.take {L' Lr : List Own} {a : Act} {w : World} (s : St G n m L F a w) (hT : Take L L' Lr) : St G n m L' F a w := by
  obtain ⟨t1, _, _, t4⟩ := hT.split
  have hk : ∀ y, keys L' y → keys L y := fun y ⟨o, ho, hy⟩ => ⟨o, t1 o ho, hy⟩
  exact ⟨s.env, s.keep, ⟨fun o ho => s.own.all o (t1 o ho), (t4 s.own.apart).1⟩, fun x hx => s.mine x (hk x hx), s.x, fun φ hφ => φ.stable (s.facts φ hφ) ⟨Nat.le_refl _, fun _ _ _ => rfl, fun x _ hm => hm.imp id (hk x)⟩⟩
/-- The own things in another order, and fewer. -/
theorem ends_take {L' Lr : List Own} {e : Exit} (hT : Take L L' Lr) (h : Ends G n Q e m L' F) : Ends G n Q e m L F := fun a w s => h a w (s.take hT)
theorem c_take {L' Lr : List Own} {c : Code} (hT : Take L L' Lr) (h : RunC G n P c Q m L' F) : RunC G n P c Q m L F := fun a w s => h a w (s.take hT)
theorem l_take {L' Lr : List Own} (hT : Take L L' Lr) (h : RunL G n P ops Q rest m L' F) : RunL G n P ops Q rest m L F := fun a w s => h a w (s.take hT)
/-- The own things, said otherwise. -/
theorem c_own {c : Code} {L' : List Own} (hL : L = L') (h : RunC G n P c Q m L' F) : RunC G n P c Q m L F := hL ▸ h
theorem e_out {κ : Type} {mE : κ → Regs} {LE : κ → List Own} {FE : κ → List Fact} (k : κ) (hm : ∀ t v, look (mE k) t = some v → look m t = some v) (hL : L = LE k) (hF : ∀ φ, φ ∈ FE k → φ ∈ F) :
    Ends G n (Exit.then (fun a w => ∃ k, St G n (mE k) (LE k) (FE k) a w) Q) .normal m L F := by
  subst hL
  exact fun a w s => ⟨k, s.sub hm hF⟩
end

open Go.Lib in
theorem decDigits_len {z : Int} (h0 : 0 ≤ z) (h1 : z ≤ 9223372036854775807) : (decDigits z.toNat).length ≤ 21 := by
  have := itoa_length_le z (by omega) h1
  rwa [← Int.toNat_of_nonneg h0, itoa_nonneg] at this
end Go.Proofs.YtbllgmcpebifhaaDoor.K
