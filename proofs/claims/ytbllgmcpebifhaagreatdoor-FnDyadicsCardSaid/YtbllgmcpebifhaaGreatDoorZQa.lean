/- The engine, part q: floats of any kind; two floats count as one if both are NaN. -/
import Derived.Test.YtbllgmcpebifhaaGreatDoorZKm
namespace Go.Proofs.YtbllgmcpebifhaaGreatDoor.K
open Go Go.RowKit Ieee
set_option linter.all false
set_option exponentiation.threshold 8000
set_option maxRecDepth 10000

def NAN : Nat := 0x7ff8000000000001
def nanB (x : Nat) : Bool := (double.read x).isNaN
/-- A float, all NaN taken as one. -/
def nf (x : Nat) : Nat := bif nanB x then NAN else x % 18446744073709551616
/-- What a float operation gives, any NaN taken as one. -/
def fop (op : BinOp) (x y : Nat) : Nat := (floatBits op .f64 x y).getD NAN

theorem nan_NAN : nanB NAN = true := by decide +kernel
theorem read_mod (x : Nat) : double.read (x % 18446744073709551616) = double.read x := by
  have h1 : x % 18446744073709551616 / 9223372036854775808 % 2 = x / 9223372036854775808 % 2 := by omega
  have h2 : x % 18446744073709551616 % 9223372036854775808 = x % 9223372036854775808 := by omega
  unfold Format.read
  rw [sw, h1, h2]
theorem nanB_iff (x : Nat) : nanB x = true ↔ ∃ s f, double.read x = .nan s f := by
  unfold nanB
  cases h : double.read x <;> simp [Datum.isNaN]
theorem isNan_iff (x : Nat) : nanB x = true ↔ isNan x := nanB_iff x
theorem nf_nan {x : Nat} (h : nanB x = true) : nf x = NAN := by simp [nf, h]
theorem nf_num {x : Nat} (h : nanB x = false) : nf x = x % 18446744073709551616 := by simp [nf, h]
theorem nanB_mod (x : Nat) : nanB (x % 18446744073709551616) = nanB x := by unfold nanB; rw [read_mod]
theorem nf_NAN : nf NAN = NAN := nf_nan nan_NAN
theorem nf_nf (x : Nat) : nf (nf x) = nf x := by
  cases h : nanB x with
  | true => rw [nf_nan h, nf_NAN]
  | false => rw [nf_num h, nf_num (by rw [nanB_mod, h]), Nat.mod_mod]
/-- What is read of a float that is no NaN. -/
theorem read_nf {x : Nat} (h : nanB x = false) : double.read (nf x) = double.read x := by rw [nf_num h, read_mod]

theorem fb_read {op : BinOp} {x y x' y' : Nat} (h : double.read x = double.read x') (k : double.read y = double.read y') : floatBits op .f64 x y = floatBits op .f64 x' y' := by
  have e : FloatKind.format .f64 = double := rfl
  cases op <;> simp only [floatBits, e, Format.add, Format.sub, Format.mul, Format.div, h, k]
theorem fb_nanL {op : BinOp} {x y : Nat} (h : nanB x = true) : floatBits op .f64 x y = none := by
  obtain ⟨s, f, h⟩ := (nanB_iff x).1 h
  have e : FloatKind.format .f64 = double := rfl
  cases op <;> simp only [floatBits, e, Format.add, Format.sub, Format.mul, Format.div, h]
  all_goals (cases double.read y <;> rfl)
theorem fb_nanR {op : BinOp} {x y : Nat} (h : nanB y = true) : floatBits op .f64 x y = none := by
  obtain ⟨s, f, h⟩ := (nanB_iff y).1 h
  have e : FloatKind.format .f64 = double := rfl
  cases op <;> simp only [floatBits, e, Format.add, Format.sub, Format.mul, Format.div, h]
  all_goals (cases double.read x <;> rfl)
theorem fop_l (op : BinOp) (x y : Nat) : fop op (nf x) y = fop op x y := by
  cases h : nanB x with
  | true => rw [nf_nan h]; simp [fop, fb_nanL h, fb_nanL nan_NAN]
  | false => unfold fop; rw [fb_read (read_nf h) rfl]
theorem fop_r (op : BinOp) (x y : Nat) : fop op x (nf y) = fop op x y := by
  cases h : nanB y with
  | true => rw [nf_nan h]; simp [fop, fb_nanR h, fb_nanR nan_NAN]
  | false => unfold fop; rw [fb_read rfl (read_nf h)]
theorem fop_eq {op : BinOp} {x y x' y' : Nat} (hx : nf x = nf x') (hy : nf y = nf y') : fop op x y = fop op x' y' := by
  rw [← fop_l, ← fop_r, hx, hy, fop_l, fop_r]

theorem read_small (s : Bool) (r : Nat) (h : r ≤ double.infRung) : nanB (double.word s r) = false := by
  have h1 : r % 9223372036854775808 = r := Nat.mod_eq_of_lt (by rw [ir] at h; omega)
  have h2 : double.word s r % 9223372036854775808 = r := by
    unfold Format.word
    rw [sw]
    cases s
    · exact h1
    · simp only [if_true]; rw [ir] at h; omega
  unfold nanB Format.read
  rw [sw, h2]
  dsimp only
  split
  · rfl
  · split
    · rfl
    · split
      · rfl
      · rw [ir] at *; omega
theorem nearest_num (s : Bool) (mag : Nat) (place : Int) : nanB (double.nearest s mag place) = false := by
  unfold Format.nearest
  split
  · exact read_small _ _ (Nat.zero_le _)
  · exact read_small _ _ (Nat.min_le_right _ _)
theorem write_notNan {d : Datum} (h : d.isNaN = false) : nanB (double.write d) = false := by
  cases d with
  | number s m p => exact nearest_num s m p
  | infinity s => exact read_small _ _ (Nat.le_refl _)
  | nan s f => simp [Datum.isNaN] at h
theorem sum_num {a b c : Datum} (h : a.sum b = some c) : c.isNaN = false := by
  cases a <;> cases b <;> simp only [Datum.sum] at h <;> first | (cases h; done) | (injection h with h; subst h; rfl) | (split at h <;> first | (cases h; done) | (injection h with h; subst h; rfl))
theorem product_num {a b c : Datum} (h : a.product b = some c) : c.isNaN = false := by
  cases a <;> cases b <;> simp only [Datum.product] at h <;> first | (cases h; done) | (injection h with h; subst h; rfl) | (split at h <;> first | (cases h; done) | (injection h with h; subst h; rfl))
theorem quotient_num {k : Nat} {a b c : Datum} (h : a.quotient k b = some c) : c.isNaN = false := by
  cases a <;> cases b <;> simp only [Datum.quotient] at h <;> first | (cases h; done) | (injection h with h; subst h; rfl) | (repeat' (split at h)) <;> first | (cases h; done) | (injection h with h; subst h; rfl)
theorem fb_num {op : BinOp} {x y r : Nat} (h : floatBits op .f64 x y = some r) : nanB r = false := by
  have e : FloatKind.format .f64 = double := rfl
  cases op <;> simp only [floatBits, e, Format.add, Format.sub, Format.mul, Format.div, Option.map_eq_some_iff] at h
  all_goals first | (cases h; done) | skip
  · obtain ⟨d, h1, rfl⟩ := h; exact write_notNan (sum_num h1)
  · obtain ⟨d, h1, rfl⟩ := h; exact write_notNan (sum_num h1)
  · obtain ⟨d, h1, rfl⟩ := h; exact write_notNan (product_num h1)
  · obtain ⟨d, h1, rfl⟩ := h; exact write_notNan (quotient_num h1)
theorem fb_lt {op : BinOp} {x y r : Nat} (h : floatBits op .f64 x y = some r) : r < 18446744073709551616 := by
  have := floatBits_wf h
  simpa [Lit.wf] using this
theorem nf_fb {op : BinOp} {x y r : Nat} (h : floatBits op .f64 x y = some r) : nf r = r := (nf_num (fb_num h)).trans (Nat.mod_eq_of_lt (fb_lt h))
theorem nf_fop (op : BinOp) (x y : Nat) : nf (fop op x y) = fop op x y := by
  unfold fop
  cases h : floatBits op .f64 x y with
  | none => exact nf_NAN
  | some r => exact nf_fb h

/-! comparisons -/
def fcmp (op : BinOp) (x y : Nat) : Bool :=
  match op with
  | .eql => double.order x y == some .eq
  | .neq => double.order x y != some .eq
  | .lss => double.order x y == some .lt
  | .leq => double.order x y == some .lt || double.order x y == some .eq
  | .gtr => double.order x y == some .gt
  | .geq => double.order x y == some .gt || double.order x y == some .eq
  | _ => false
theorem nan_orderR {x y : Nat} (h : nanB y = true) : double.order x y = none := by
  obtain ⟨s, f, h⟩ := (nanB_iff y).1 h
  unfold Format.order
  rw [h]
  cases double.read x <;> rfl
theorem order_l (x y : Nat) : double.order (nf x) y = double.order x y := by
  cases h : nanB x with
  | true => rw [nf_nan h, nan_order ((isNan_iff _).1 nan_NAN), nan_order ((isNan_iff _).1 h)]
  | false => unfold Format.order; rw [read_nf h]
theorem order_r (x y : Nat) : double.order x (nf y) = double.order x y := by
  cases h : nanB y with
  | true => rw [nf_nan h, nan_orderR nan_NAN, nan_orderR h]
  | false => unfold Format.order; rw [read_nf h]
theorem fcmp_eq {op : BinOp} {x y x' y' : Nat} (hx : nf x = nf x') (hy : nf y = nf y') : fcmp op x y = fcmp op x' y' := by
  have h : double.order x y = double.order x' y' := by rw [← order_l, ← order_r, hx, hy, order_l, order_r]
  simp only [fcmp, h]

/-- The sign turned. -/
def fneg (x : Nat) : Nat := nf (Op.negFloat .f64 x)
/-- A float that is e, all NaN taken as one. -/
abbrev FW (e : Nat) : Type := {r : Nat // nf r = e ∧ r < 18446744073709551616}
/-- A word. -/
abbrev W64 : Type := {r : Nat // r < 18446744073709551616}
/-- A complex number that is e. -/
abbrev CW (e : Nat × Nat) : Type := {r : Nat × Nat // (nf r.1 = e.1 ∧ nf r.2 = e.2) ∧ r.1 < 18446744073709551616 ∧ r.2 < 18446744073709551616}
theorem FW.lt {e : Nat} (u : FW e) : u.1 < 18446744073709551616 := u.2.2
theorem CW.lt1 {e : Nat × Nat} (u : CW e) : u.1.1 < 18446744073709551616 := u.2.2.1
theorem CW.lt2 {e : Nat × Nat} (u : CW e) : u.1.2 < 18446744073709551616 := u.2.2.2
theorem W64.lt (u : W64) : u.1 < 18446744073709551616 := u.2

theorem FW.fr {e : Nat} (u : FW e) (op : BinOp) (x : Nat) : fop op x u.1 = fop op x e := by rw [← fop_r, u.2.1]
theorem fcmp_l (op : BinOp) (x y : Nat) : fcmp op (nf x) y = fcmp op x y := fcmp_eq (nf_nf x) rfl
theorem FW.cl {e : Nat} (u : FW e) (op : BinOp) (y : Nat) : fcmp op u.1 y = fcmp op e y := by rw [← fcmp_l, u.2.1]
section
variable {G : Ctx} {n : Nat} {P : Program} {ops : Array Oper} {Q : Post} {rest : List Oper} {m : Regs} {L L' : List Own} {F : List Fact}
variable {d : Nat} {ty : TypeId} {pos : String} {af : Array Edge} {g : Option (Nat × Bool)} {v : Value}
theorem nan_lt (t : Nat) : (t % 2) * 2 ^ 63 + 0x7ff0000000000000 + 1 + (t / 2) % (2 ^ 52 - 1) < 18446744073709551616 := by
  have e63 : (2 : Nat) ^ 63 = 9223372036854775808 := by decide
  have e52 : (2 : Nat) ^ 52 - 1 = 4503599627370495 := by decide
  rw [e63, e52]
  have h2 : t / 2 % 4503599627370495 < 4503599627370495 := Nat.mod_lt _ (by decide)
  omega
abbrev Quiet (w w' : World) : Prop := Keep (fun _ => False) w w'
theorem Quiet.refl (w : World) : Quiet w w := Keep.refl _ w
theorem Quiet.trans {a b c : World} (h : Quiet a b) (k : Quiet b c) : Quiet a c := Keep.trans h k fun _ _ h => h
def isArith : BinOp → Bool
  | .add | .sub | .mul | .quo => true
  | _ => false
theorem run_fa {op : BinOp} (hop : isArith op = true) (x y : Nat) (w : World) : ∃ r w', (Op.floatArith op .f64 x y).run P w = .ok (.float .f64 r) w' ∧ Quiet w w' ∧ nf r = fop op x y ∧ r < 18446744073709551616 := by
  cases h : floatBits op .f64 x y with
  | some r => exact ⟨r, w, run_floatArith w h, Quiet.refl w, by rw [fop, h]; exact nf_fb h, fb_lt h⟩
  | none =>
    have hf : (Question.nanBits FloatKind.f64 x y).forced = false := rfl
    have e : FloatKind.format .f64 = double := rfl
    have hr : fop op x y = NAN := by rw [fop, h]; rfl
    have hn : ∀ r, isNan r → nf r = fop op x y := fun r hr' => by rw [hr]; exact nf_nan ((isNan_iff r).2 hr')
    cases op <;> simp only [isArith, Bool.false_eq_true] at hop <;> simp only [floatBits] at h <;> simp [Op.floatArith, h, hf]
    all_goals exact ⟨_, _, ⟨rfl, rfl⟩, ⟨rfl, rfl, rfl, Nat.le_refl _, fun _ _ _ => rfl⟩, hn _ (nan_cut _), nan_lt _⟩
theorem run_ca {op : BinOp} (hop : isArith op = true) (x y : Nat) (w : World) : ∃ r w', (Op.Complex.arith op .f64 x y).run P w = .ok r w' ∧ Quiet w w' ∧ nf r = fop op x y ∧ r < 18446744073709551616 := by
  obtain ⟨r, w', h1, h2, h3⟩ := run_fa (P := P) hop x y w
  exact ⟨r, w', by simp [Op.Complex.arith, h1], h2, h3⟩
/-- A float operation, whatever it gives. -/
theorem l_fop {op : BinOp} {t yt : TypeId} {x y : Operand} {p q : Nat} (hop : isArith op = true) (hw : wantG ops m g = some true) (hx : ev m x = some (.float .f64 p)) (hy : ev m y = some (.float .f64 q)) (hd : Nat.blt d n = true)
    (h : ∀ u : FW (fop op p q), RunL G n P ops Q rest ((d, .float .f64 u.1) :: m) L F) : RunL G n P ops Q (⟨some d, .binOp op t x y yt, ty, pos, af, g⟩ :: rest) m L F :=
  l_step hw fun a w s => by
    obtain ⟨r, w', h1, h2, h3⟩ := run_fa (P := P) hop p q w
    have h4 : (binOp op t (.float .f64 p) (.float .f64 q)).run P w = .ok (.float .f64 r) w' := by
      cases op <;> simp only [isArith, Bool.false_eq_true] at hop <;> exact h1
    refine ⟨_, w', ?_, h ⟨r, h3⟩ _ _ ((St.quiet s h2).put hd _)⟩
    simp [execOp, s.env.eval hx, s.env.eval hy, guard_flt, h4]
theorem run_fcmp {op : BinOp} (hop : isCmp op = true) (x y : Nat) (w : World) : (Op.floatCmp op .f64 x y).run P w = .ok (.bool (fcmp op x y)) w := by
  have e : FloatKind.format .f64 = double := rfl
  cases op <;> simp only [isCmp, Bool.false_eq_true] at hop <;> simp [Op.floatCmp, fcmp, e]
theorem l_fcmp {op : BinOp} {t yt : TypeId} {x y : Operand} {p q : Nat} (hop : isCmp op = true) (hw : wantG ops m g = some true) (hx : ev m x = some (.float .f64 p)) (hy : ev m y = some (.float .f64 q)) (hd : Nat.blt d n = true)
    (h : RunL G n P ops Q rest ((d, .bool (fcmp op p q)) :: m) L F) : RunL G n P ops Q (⟨some d, .binOp op t x y yt, ty, pos, af, g⟩ :: rest) m L F :=
  l_bin hw hx hy hd (fun w => guard_flt w) (fun w => by
    have h1 := run_fcmp (P := P) hop p q w
    cases op <;> simp only [isCmp, Bool.false_eq_true] at hop <;> exact h1) h
theorem neg_lt' {p : Nat} (h : p < 18446744073709551616) : Op.negFloat .f64 p < 18446744073709551616 := by
  have e : Op.negFloat .f64 p = p ^^^ 9223372036854775808 := rfl
  rw [e]
  exact Nat.xor_lt_two_pow (n := 64) h (by decide)
theorem l_fnegN {t : TypeId} {x : Operand} {p : Nat} (hw : wantG ops m g = some true) (hx : ev m x = some (.float .f64 p)) (hd : Nat.blt d n = true) (hp : p < 18446744073709551616)
    (h : ∀ u : FW (fneg p), RunL G n P ops Q rest ((d, .float .f64 u.1) :: m) L F) : RunL G n P ops Q (⟨some d, .unOp .neg t x, ty, pos, af, g⟩ :: rest) m L F :=
  l_fneg hw hx hd (h ⟨_, rfl, neg_lt' hp⟩)
theorem l_cnegAny {t : TypeId} {x : Operand} {p q : Nat} (hw : wantG ops m g = some true) (hx : ev m x = some (.complex .f64 p q)) (hd : Nat.blt d n = true)
    (h : ∀ u : Nat × Nat, RunL G n P ops Q rest ((d, .complex .f64 u.1 u.2) :: m) L F) : RunL G n P ops Q (⟨some d, .unOp .neg t x, ty, pos, af, g⟩ :: rest) m L F :=
  l_val _ hw hd (fun a w s => by simp [execOp, s.env.eval hx, Op.unary]; exact ⟨rfl, rfl⟩) (h (_, _))

/-! complex numbers -/
def nf2 (z : Nat × Nat) : Nat × Nat := (nf z.1, nf z.2)
def cadd (a b : Nat × Nat) : Nat × Nat := (fop .add a.1 b.1, fop .add a.2 b.2)
def csub (a b : Nat × Nat) : Nat × Nat := (fop .sub a.1 b.1, fop .sub a.2 b.2)
def ceq (a b : Nat × Nat) : Bool := fcmp .eql a.1 b.1 && fcmp .eql a.2 b.2
/-- Sums and differences of complex numbers. -/
theorem l_csum {op : BinOp} {t yt : TypeId} {x y : Operand} {p1 p2 q1 q2 : Nat} (hop : op = .add ∨ op = .sub) (hw : wantG ops m g = some true) (hx : ev m x = some (.complex .f64 p1 p2)) (hy : ev m y = some (.complex .f64 q1 q2)) (hd : Nat.blt d n = true)
    (h : ∀ u : CW (fop op p1 q1, fop op p2 q2), RunL G n P ops Q rest ((d, .complex .f64 u.1.1 u.1.2) :: m) L F) : RunL G n P ops Q (⟨some d, .binOp op t x y yt, ty, pos, af, g⟩ :: rest) m L F :=
  l_step hw fun a w s => by
    have ha : isArith op = true := by rcases hop with rfl | rfl <;> rfl
    obtain ⟨r, w1, h1, h2, h3⟩ := run_ca (P := P) ha p1 q1 w
    obtain ⟨r', w2, k1, k2, k3⟩ := run_ca (P := P) ha p2 q2 w1
    have h4 : (binOp op t (.complex .f64 p1 p2) (.complex .f64 q1 q2)).run P w = .ok (.complex .f64 r r') w2 := by
      rcases hop with rfl | rfl <;> simp [binOp, Op.complexOp, h1, k1]
    refine ⟨_, w2, ?_, h ⟨(r, r'), ⟨h3.1, k3.1⟩, h3.2, k3.2⟩ _ _ ((St.quiet (St.quiet s h2) k2).put hd _)⟩
    simp [execOp, s.env.eval hx, s.env.eval hy, guard_cx, h4]
theorem l_cadd {t yt : TypeId} {x y : Operand} {p1 p2 q1 q2 : Nat} (hw : wantG ops m g = some true) (hx : ev m x = some (.complex .f64 p1 p2)) (hy : ev m y = some (.complex .f64 q1 q2)) (hd : Nat.blt d n = true)
    (h : ∀ u : CW (cadd (p1, p2) (q1, q2)), RunL G n P ops Q rest ((d, .complex .f64 u.1.1 u.1.2) :: m) L F) : RunL G n P ops Q (⟨some d, .binOp .add t x y yt, ty, pos, af, g⟩ :: rest) m L F := l_csum (.inl rfl) hw hx hy hd h
theorem l_csub {t yt : TypeId} {x y : Operand} {p1 p2 q1 q2 : Nat} (hw : wantG ops m g = some true) (hx : ev m x = some (.complex .f64 p1 p2)) (hy : ev m y = some (.complex .f64 q1 q2)) (hd : Nat.blt d n = true)
    (h : ∀ u : CW (csub (p1, p2) (q1, q2)), RunL G n P ops Q rest ((d, .complex .f64 u.1.1 u.1.2) :: m) L F) : RunL G n P ops Q (⟨some d, .binOp .sub t x y yt, ty, pos, af, g⟩ :: rest) m L F := l_csum (.inr rfl) hw hx hy hd h
theorem run_ccmp {x y : Nat} (w : World) : (Op.Complex.cmp .eql .f64 x y).run P w = .ok (fcmp .eql x y) w := by
  simp [Op.Complex.cmp, run_fcmp (P := P) (op := .eql) rfl, asBool]
theorem l_ceqN {t yt : TypeId} {x y : Operand} {p1 p2 q1 q2 : Nat} (hw : wantG ops m g = some true) (hx : ev m x = some (.complex .f64 p1 p2)) (hy : ev m y = some (.complex .f64 q1 q2)) (hd : Nat.blt d n = true)
    (h : RunL G n P ops Q rest ((d, .bool (ceq (p1, p2) (q1, q2))) :: m) L F) : RunL G n P ops Q (⟨some d, .binOp .eql t x y yt, ty, pos, af, g⟩ :: rest) m L F :=
  l_bin hw hx hy hd (fun w => guard_cx w) (fun w => by
    simp only [binOp, Op.complexOp, Sem.run_bind, run_ccmp, Result.andThen_ok, ceq]
    cases h1 : fcmp .eql p1 q1 <;> cases h2 : fcmp .eql p2 q2 <;> simp [run_ccmp, h1, h2]) h
theorem l_cneN {t yt : TypeId} {x y : Operand} {p1 p2 q1 q2 : Nat} (hw : wantG ops m g = some true) (hx : ev m x = some (.complex .f64 p1 p2)) (hy : ev m y = some (.complex .f64 q1 q2)) (hd : Nat.blt d n = true)
    (h : RunL G n P ops Q rest ((d, .bool (!ceq (p1, p2) (q1, q2))) :: m) L F) : RunL G n P ops Q (⟨some d, .binOp .neq t x y yt, ty, pos, af, g⟩ :: rest) m L F :=
  l_bin hw hx hy hd (fun w => guard_cx w) (fun w => by
    simp only [binOp, Op.complexOp, Sem.run_bind, run_ccmp, Result.andThen_ok, ceq]
    cases h1 : fcmp .eql p1 q1 <;> cases h2 : fcmp .eql p2 q2 <;> simp [run_ccmp, h1, h2]) h

/-! quotients of complex numbers -/
/-- An action that ends quietly, with a value of a kind. -/
def Gets {α : Type} (P : Program) (x : Sem α) (p : α → Prop) : Prop := ∀ w, ∃ r w', x.run P w = .ok r w' ∧ Quiet w w' ∧ p r
theorem Gets.bind {α β : Type} {x : Sem α} {f : α → Sem β} {p : α → Prop} {q : β → Prop} (h : Gets P x p) (k : ∀ r, p r → Gets P (f r) q) : Gets P (x >>= f) q := fun w => by
  obtain ⟨r, w1, h1, h2, h3⟩ := h w
  obtain ⟨s, w2, k1, k2, k3⟩ := k r h3 w1
  exact ⟨s, w2, by simp [h1, k1], h2.trans k2, k3⟩
theorem Gets.pure {α : Type} {r : α} {p : α → Prop} (h : p r) : Gets P (Pure.pure r : Sem α) p := fun w => ⟨r, w, by simp, Quiet.refl w, h⟩
theorem Gets.mono {α : Type} {x : Sem α} {p q : α → Prop} (h : Gets P x p) (k : ∀ r, p r → q r) : Gets P x q := fun w => by
  obtain ⟨r, w1, h1, h2, h3⟩ := h w
  exact ⟨r, w1, h1, h2, k r h3⟩
theorem gets_arith {op : BinOp} (hop : isArith op = true) (x y : Nat) : Gets P (Op.Complex.arith op .f64 x y) (fun r => nf r = fop op x y) := fun w => by
  obtain ⟨r, w', h1, h2, h3, _⟩ := run_ca (P := P) hop x y w
  exact ⟨r, w', h1, h2, h3⟩
theorem gets_cmp {op : BinOp} (hop : isCmp op = true) (x y : Nat) : Gets P (Op.Complex.cmp op .f64 x y) (fun r => r = fcmp op x y) := fun w => ⟨_, w, by simp [Op.Complex.cmp, run_fcmp (P := P) hop, asBool], Quiet.refl w, rfl⟩
def absB (x : Nat) : Nat := x % 2 ^ 63
/-- The quotient by Smith's way. -/
def cdiv (a b : Nat × Nat) : Nat × Nat :=
  if fcmp .geq (absB b.1) (absB b.2) then
    let q := fop .quo b.2 b.1
    let s := fop .add b.1 (fop .mul q b.2)
    (fop .quo (fop .add a.1 (fop .mul a.2 q)) s, fop .quo (fop .sub a.2 (fop .mul a.1 q)) s)
  else
    let q := fop .quo b.1 b.2
    let s := fop .add b.2 (fop .mul q b.1)
    (fop .quo (fop .add (fop .mul a.1 q) a.2) s, fop .quo (fop .sub (fop .mul a.2 q) a.1) s)
theorem gets_step {op : BinOp} (hop : isArith op = true) {x y x' y' : Nat} (hx : nf x = nf x') (hy : nf y = nf y') : Gets P (Op.Complex.arith op .f64 x y) (fun r => nf r = fop op x' y') :=
  (gets_arith hop x y).mono fun r h => by rw [h]; exact fop_eq hx hy
theorem gets_any {op : BinOp} (hop : isArith op = true) (x y : Nat) : Gets P (Op.Complex.arith op .f64 x y) (fun _ => True) := (gets_arith hop x y).mono fun _ _ => trivial
/-- A finite float: neither infinite nor NaN. -/
def fnum (x : Nat) : Prop := ∃ s m p, double.read x = .number s m p
theorem gets_corrected (k a b c e : Nat) : Gets P (Op.Complex.corrected k a b c e) (fun _ => True) := by
  unfold Op.Complex.corrected
  exact (gets_any rfl _ _).bind fun _ _ => (gets_any rfl _ _).bind fun _ _ => (gets_any rfl _ _).bind fun _ _ => (gets_any rfl _ _).bind fun _ _ => (gets_any rfl _ _).bind fun _ _ => (gets_any rfl _ _).bind fun _ _ => (gets_any rfl _ _).bind fun _ _ => (gets_any rfl _ _).bind fun _ _ => Gets.pure trivial
theorem gets_tail (a b c e : Nat) (r : Nat × Nat) (hr : nf2 r = cdiv (a, b) (c, e)) : Gets P (match r with
    | (e_1, f) => do
      let zero := (← Op.Complex.cmp .eql .f64 c 0) && (← Op.Complex.cmp .eql .f64 e 0)
      if !(Op.Complex.isNaN e_1 && Op.Complex.isNaN f) then pure (e_1, f)
      else if zero && (!Op.Complex.isNaN a || !Op.Complex.isNaN b) then
        pure (← Op.Complex.mul (Op.Complex.copysign Op.Complex.inf c) a, ← Op.Complex.mul (Op.Complex.copysign Op.Complex.inf c) b)
      else if (Op.Complex.isInf a || Op.Complex.isInf b) && Op.Complex.isFinite c && Op.Complex.isFinite e then
        Op.Complex.corrected Op.Complex.inf (Op.Complex.inf2one a) (Op.Complex.inf2one b) c e
      else if (Op.Complex.isInf c || Op.Complex.isInf e) && Op.Complex.isFinite a && Op.Complex.isFinite b then
        Op.Complex.corrected 0 a b (Op.Complex.inf2one c) (Op.Complex.inf2one e)
      else pure (e_1, f)) (fun r => (fnum a ∧ fnum b ∧ fnum c ∧ fnum e ∧ ceq (c, e) (0, 0) = false) → nf2 r = cdiv (a, b) (c, e)) := by
  have hf : ∀ x, fnum x → Op.Complex.isInf x = false := fun x ⟨s, m, p, h⟩ => by
    have e : FloatKind.format .f64 = double := rfl
    simp [Op.Complex.isInf, FloatKind.decode, e, h, Datum.isInfinity]
  obtain ⟨r1, r2⟩ := r
  dsimp only
  refine (gets_cmp rfl _ _).bind fun z1 h1 => (gets_cmp rfl _ _).bind fun z2 h2 => ?_
  split
  · exact Gets.pure fun _ => hr
  · split
    · rename_i hz
      refine (gets_any rfl _ _).bind fun _ _ => (gets_any rfl _ _).bind fun _ _ => Gets.pure fun h => ?_
      obtain ⟨_, _, _, _, h⟩ := h
      exfalso
      rw [h1, h2] at hz
      simp only [Bool.and_eq_true] at hz
      simp only [ceq, hz.1.1, hz.1.2, Bool.and_self, Bool.true_eq_false] at h
    · split
      · rename_i hz
        refine (gets_corrected _ _ _ _ _).mono fun _ _ h => ?_
        exfalso
        simp only [hf a h.1, hf b h.2.1, Bool.or_self, Bool.false_and] at hz
        cases hz
      · split
        · rename_i hz
          refine (gets_corrected _ _ _ _ _).mono fun _ _ h => ?_
          exfalso
          simp only [hf c h.2.2.1, hf e h.2.2.2.1, Bool.or_self, Bool.false_and] at hz
          cases hz
        · exact Gets.pure fun _ => hr
theorem gets_quotient (a b c e : Nat) : Gets P (Op.Complex.quotient a b c e) (fun r => (fnum a ∧ fnum b ∧ fnum c ∧ fnum e ∧ ceq (c, e) (0, 0) = false) → nf2 r = cdiv (a, b) (c, e)) := by
  unfold Op.Complex.quotient
  have ec : Op.Complex.abs c = absB c := rfl
  have ee : Op.Complex.abs e = absB e := rfl
  refine (gets_cmp rfl _ _).bind fun r hr => ?_
  rw [ec, ee] at hr
  cases r with
  | true =>
    dsimp only
    rw [if_pos rfl]
    refine (gets_step rfl rfl rfl).bind fun q hq => (gets_step rfl (hq.trans (nf_fop _ _ _).symm) rfl).bind fun t ht => (gets_step rfl rfl (ht.trans (nf_fop _ _ _).symm)).bind fun s hs => ?_
    refine (gets_step rfl rfl (hq.trans (nf_fop _ _ _).symm)).bind fun u hu => (gets_step rfl rfl (hu.trans (nf_fop _ _ _).symm)).bind fun v hv => (gets_step rfl (hv.trans (nf_fop _ _ _).symm) (hs.trans (nf_fop _ _ _).symm)).bind fun x hx => ?_
    refine (gets_step rfl rfl (hq.trans (nf_fop _ _ _).symm)).bind fun u' hu' => (gets_step rfl rfl (hu'.trans (nf_fop _ _ _).symm)).bind fun v' hv' => (gets_step rfl (hv'.trans (nf_fop _ _ _).symm) (hs.trans (nf_fop _ _ _).symm)).bind fun y hy => ?_
    exact gets_tail a b c e (x, y) (by simp only [nf2, hx, hy, cdiv]; rw [if_pos hr.symm])
  | false =>
    have hn : ¬ (fcmp .geq (absB c) (absB e) = true) := by rw [← hr]; simp
    dsimp only
    rw [if_neg (by simp)]
    refine (gets_step rfl rfl rfl).bind fun q hq => (gets_step rfl (hq.trans (nf_fop _ _ _).symm) rfl).bind fun t ht => (gets_step rfl rfl (ht.trans (nf_fop _ _ _).symm)).bind fun s hs => ?_
    refine (gets_step rfl rfl (hq.trans (nf_fop _ _ _).symm)).bind fun u hu => (gets_step rfl (hu.trans (nf_fop _ _ _).symm) rfl).bind fun v hv => (gets_step rfl (hv.trans (nf_fop _ _ _).symm) (hs.trans (nf_fop _ _ _).symm)).bind fun x hx => ?_
    refine (gets_step rfl rfl (hq.trans (nf_fop _ _ _).symm)).bind fun u' hu' => (gets_step rfl (hu'.trans (nf_fop _ _ _).symm) rfl).bind fun v' hv' => (gets_step rfl (hv'.trans (nf_fop _ _ _).symm) (hs.trans (nf_fop _ _ _).symm)).bind fun y hy => ?_
    exact gets_tail a b c e (x, y) (by simp only [nf2, hx, hy, cdiv]; rw [if_neg hn])
theorem l_gets {op : Op} {α : Type} {x : Sem α} {p : α → Prop} {f : α → Value} (hg : Gets P x p) (hw : wantG ops m g = some true) (hd : Nat.blt d n = true)
    (hrun : ∀ a w, St G n m L F a w → ∀ r w', x.run P w = .ok r w' → (execOp a.eval ⟨some d, op, ty, pos, af, g⟩).run P w = .ok (.value (f r)) w')
    (h : ∀ r, p r → RunL G n P ops Q rest ((d, f r) :: m) L F) : RunL G n P ops Q (⟨some d, op, ty, pos, af, g⟩ :: rest) m L F :=
  l_step hw fun a w s => by
    obtain ⟨r, w', h1, h2, h3⟩ := hg w
    exact ⟨_, w', hrun a w s r w' h1, h r h3 _ _ ((St.quiet s h2).put hd _)⟩
/-- A quotient of finite numbers, the second not 0. -/
theorem l_cquo {t yt : TypeId} {x y : Operand} {p1 p2 q1 q2 : Nat} (hw : wantG ops m g = some true) (hx : ev m x = some (.complex .f64 p1 p2)) (hy : ev m y = some (.complex .f64 q1 q2)) (hd : Nat.blt d n = true)
    (h : ∀ u : {r : Nat × Nat // (fnum p1 ∧ fnum p2 ∧ fnum q1 ∧ fnum q2 ∧ ceq (q1, q2) (0, 0) = false) → nf2 r = cdiv (p1, p2) (q1, q2)}, RunL G n P ops Q rest ((d, .complex .f64 u.1.1 u.1.2) :: m) L F) : RunL G n P ops Q (⟨some d, .binOp .quo t x y yt, ty, pos, af, g⟩ :: rest) m L F :=
  l_gets (f := fun r => .complex .f64 r.1 r.2) (gets_quotient (P := P) p1 p2 q1 q2) hw hd (fun a w s r w' h1 => by
    have h5 : (BinOp.quo == BinOp.mul) = false := rfl
    simp [execOp, s.env.eval hx, s.env.eval hy, guard_cx, binOp, Op.complexOp, Op.Complex.conv, h5, h1]) fun r hr => h ⟨r, hr⟩
theorem floatOfInt_lt (z : Int) : floatOfInt .f64 z < 18446744073709551616 := by
  have := floatOfInt_wf .f64 z
  simpa [Lit.wf] using this
theorem zLt {x : Nat} (h : x < 18446744073709551616 := by first | assumption | exact FW.lt _ | exact W64.lt _ | exact CW.lt1 _ | exact CW.lt2 _ | exact floatOfInt_lt _ | (exact neg_lt' (by first | assumption | exact FW.lt _ | exact W64.lt _)) | decide | omega) : x < 18446744073709551616 := h
/-- What a call hands back, up to what is not told; what is owned afterwards. -/
def PM {ι : Type} (fv : ι → Value) (L1 : ι → List Own) (v : Value) (L' : List Own) (F' : List Fact) : Prop := ∃ i, v = fv i ∧ L' = L1 i ∧ F' = []
theorem l_callM {f : FuncId} {x : Operand} {xs : List Operand} {vs : List Value} {ts : Array TypeId} {Lc Lr : List Own} {Fc : List Fact} {ι : Type} {fv : ι → Value} {L1 : ι → List Own}
    (hw : wantG ops m g = some true) (hx : ev m x = some (.func (.func f) #[] #[])) (hv : Evs m xs vs) (hd : Nat.blt d n = true) (hs : Spec P f vs Lc Fc (PM fv L1)) (hL : Take L Lc Lr) (hF : ∀ φ, φ ∈ Fc → φ ∈ F)
    (h : ∀ i : ι, RunL G n P ops Q rest ((d, fv i) :: m) (L1 i ++ Lr) F) : RunL G n P ops Q (⟨some d, .call ⟨.value x, xs.toArray, ts⟩, ty, pos, af, g⟩ :: rest) m L F :=
  l_callF (first := []) (cap := []) (post := PM fv L1) hw hx hv hd (by simpa using hs) hL hF fun v L' F' ⟨i, h1, h2, h3⟩ => by subst h1; subst h2; subst h3; exact h i
/-- The end of a walk whose value is not told whole. -/
theorem e_pm {fn : Func} {rs : List ResultVar} {vs : List Value} {ι : Type} {fv : ι → Value} {L1 : ι → List Own} (i : ι) (hr : fn.results = rs.toArray) (hv : Res P m L rs vs) (hL : Take L (L1 i) L') (he : retVal vs = fv i) :
    Ends G n (bodyPost P fn (Fin G (PM fv L1))) .ret m L F := e_resT (post := PM fv L1) hr hv hL (Fo := []) fsub_nil ⟨i, he, rfl, rfl⟩
end
end Go.Proofs.YtbllgmcpebifhaaGreatDoor.K
