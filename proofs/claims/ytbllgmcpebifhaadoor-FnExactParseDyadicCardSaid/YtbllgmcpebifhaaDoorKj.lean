/- The engine, part j: shifts, bits, small literals. -/
import Derived.Test.YtbllgmcpebifhaaDoorKi
import Derived.Laws.BitsAllLaws
namespace Go.Proofs.YtbllgmcpebifhaaDoor.K
open Go Go.RowKit
set_option linter.all false

section
variable {G : Ctx} {n : Nat} {P : Program} {ops : Array Oper} {Q : Post} {rest : List Oper} {m : Regs} {L L' : List Own} {F : List Fact} {a : Act} {w w' : World}
variable {d : Nat} {ty : TypeId} {pos : String} {af : Array Edge} {g : Option (Nat × Bool)} {v : Value}

theorem l_shl24 {t yt : TypeId} {x y : Operand} {k' : IntKind} {p q z : Int} (hw : wantG ops m g = some true) (hx : ev m x = some (.int .u64 p)) (hy : ev m y = some (.int k' q)) (hd : Nat.blt d n = true) (hq : decide (q = 24) = true)
    (hz : IntKind.u64.wrap (p * 16777216) = z) (h : RunL G n P ops Q rest ((d, .int .u64 z) :: m) L F) : RunL G n P ops Q (⟨some d, .binOp .shl t x y yt, ty, pos, af, g⟩ :: rest) m L F := by
  obtain rfl := of_decide_eq_true hq
  exact l_shl hw hx hy hd (by decide) hz h
theorem l_shl32 {t yt : TypeId} {x y : Operand} {k' : IntKind} {p q z : Int} (hw : wantG ops m g = some true) (hx : ev m x = some (.int .u64 p)) (hy : ev m y = some (.int k' q)) (hd : Nat.blt d n = true) (hq : decide (q = 32) = true)
    (hz : IntKind.u64.wrap (p * 4294967296) = z) (h : RunL G n P ops Q rest ((d, .int .u64 z) :: m) L F) : RunL G n P ops Q (⟨some d, .binOp .shl t x y yt, ty, pos, af, g⟩ :: rest) m L F := by
  obtain rfl := of_decide_eq_true hq
  exact l_shl hw hx hy hd (by decide) hz h
theorem l_shr32 {t yt : TypeId} {x y : Operand} {k' : IntKind} {p q : Int} (hw : wantG ops m g = some true) (hx : ev m x = some (.int .u64 p)) (hy : ev m y = some (.int k' q)) (hd : Nat.blt d n = true) (hq : decide (q = 32) = true)
    (h : RunL G n P ops Q rest ((d, .int .u64 (p / 4294967296)) :: m) L F) : RunL G n P ops Q (⟨some d, .binOp .shr t x y yt, ty, pos, af, g⟩ :: rest) m L F := by
  obtain rfl := of_decide_eq_true hq
  exact l_shr hw hx hy hd (by decide) (Int.fdiv_eq_ediv_of_nonneg _ (by decide)) h
theorem l_shr63 {t yt : TypeId} {x y : Operand} {k' : IntKind} {p q : Int} (hw : wantG ops m g = some true) (hx : ev m x = some (.int .u64 p)) (hy : ev m y = some (.int k' q)) (hd : Nat.blt d n = true) (hq : decide (q = 63) = true)
    (h : RunL G n P ops Q rest ((d, .int .u64 (p / 9223372036854775808)) :: m) L F) : RunL G n P ops Q (⟨some d, .binOp .shr t x y yt, ty, pos, af, g⟩ :: rest) m L F := by
  obtain rfl := of_decide_eq_true hq
  exact l_shr hw hx hy hd (by decide) (Int.fdiv_eq_ediv_of_nonneg _ (by decide)) h
theorem l_mulA {t yt : TypeId} {x y : Operand} {k : IntKind} {p q z : Int} (hw : wantG ops m g = some true) (hx : ev m x = some (.int k p)) (hy : ev m y = some (.int k q)) (hd : Nat.blt d n = true)
    (hz : k.wrap (p * q) = z) (h : RunL G n P ops Q rest ((d, .int k z) :: m) L F) : RunL G n P ops Q (⟨some d, .binOp .mul t x y yt, ty, pos, af, g⟩ :: rest) m L F := l_mul hw hx hy hd hz h
theorem l_shlS {t yt : TypeId} {x y : Operand} {k' : IntKind} {p z : Int} {s : Nat} (hw : wantG ops m g = some true) (hx : ev m x = some (.int .u64 p)) (hy : ev m y = some (.int k' (s : Int))) (hd : Nat.blt d n = true) (hs : s ≤ 64)
    (hz : IntKind.u64.wrap (p * 2 ^ s) = z) (h : RunL G n P ops Q rest ((d, .int .u64 z) :: m) L F) : RunL G n P ops Q (⟨some d, .binOp .shl t x y yt, ty, pos, af, g⟩ :: rest) m L F := by
  refine l_shl hw hx hy hd (by omega) ?_ h
  rw [Int.toNat_natCast, show IntKind.u64.bits = 64 from rfl, Nat.min_eq_left hs]; exact hz
theorem l_shrS {t yt : TypeId} {x y : Operand} {k' : IntKind} {p : Int} {s : Nat} (hw : wantG ops m g = some true) (hx : ev m x = some (.int .u64 p)) (hy : ev m y = some (.int k' (s : Int))) (hd : Nat.blt d n = true) (hs : s ≤ 64)
    (h : RunL G n P ops Q rest ((d, .int .u64 (p / 2 ^ s)) :: m) L F) : RunL G n P ops Q (⟨some d, .binOp .shr t x y yt, ty, pos, af, g⟩ :: rest) m L F := by
  refine l_shr hw hx hy hd (by omega) ?_ h
  rw [Int.toNat_natCast, show IntKind.u64.bits = 64 from rfl, Nat.min_eq_left hs]
  exact Int.fdiv_eq_ediv_of_nonneg _ (Int.le_of_lt (Int.pow_pos (by decide)))
theorem l_orA {t yt : TypeId} {x y : Operand} {k : IntKind} {p q z : Int} (hw : wantG ops m g = some true) (hx : ev m x = some (.int k p)) (hy : ev m y = some (.int k q)) (hd : Nat.blt d n = true)
    (hz : bits .or k p q = z) (h : RunL G n P ops Q rest ((d, .int k z) :: m) L F) : RunL G n P ops Q (⟨some d, .binOp .or t x y yt, ty, pos, af, g⟩ :: rest) m L F := l_bits (.inr (.inl rfl)) hw hx hy hd hz h
theorem l_quo24 {t yt : TypeId} {x y : Operand} {k : IntKind} (hw : wantG ops m g = some true) (hx : ev m x = some (.int k 24)) (hy : ev m y = some (.int k 32)) (hd : Nat.blt d n = true) (hk : k.wrap 0 = 0)
    (h : RunL G n P ops Q rest ((d, .int k 0) :: m) L F) : RunL G n P ops Q (⟨some d, .binOp .quo t x y yt, ty, pos, af, g⟩ :: rest) m L F := l_quo hw hx hy hd (by decide) hk h
theorem l_rem24 {t yt : TypeId} {x y : Operand} {k : IntKind} (hw : wantG ops m g = some true) (hx : ev m x = some (.int k 24)) (hy : ev m y = some (.int k 32)) (hd : Nat.blt d n = true)
    (h : RunL G n P ops Q rest ((d, .int k 24) :: m) L F) : RunL G n P ops Q (⟨some d, .binOp .rem t x y yt, ty, pos, af, g⟩ :: rest) m L F := l_rem hw hx hy hd (by decide) (by decide) h
theorem l_add0 {t yt : TypeId} {x y : Operand} {k : IntKind} {p : Int} (hw : wantG ops m g = some true) (hx : ev m x = some (.int k p)) (hy : ev m y = some (.int k 0)) (hd : Nat.blt d n = true) (hp : k.wrap p = p)
    (h : RunL G n P ops Q rest ((d, .int k p) :: m) L F) : RunL G n P ops Q (⟨some d, .binOp .add t x y yt, ty, pos, af, g⟩ :: rest) m L F := l_add hw hx hy hd (by rw [Int.add_zero]; exact hp) h

theorem l_lit2I {t e : TypeId} {z : Value} {by' : Nat} [u : Und P t (.slice e)] [f : Inf P e z 1 by'] {x y : Operand} {k : IntKind} {b c : Int} (hw : wantG ops m g = some true) (hx : ev m x = some (.int k b)) (hy : ev m y = some (.int k c)) (hd : Nat.blt d n = true) (hz : z.cells = #[z])
    (h : ∀ v, RunL G n P ops Q rest ((d, v) :: m) (.row v e 1 2 ([b, c].map (Value.int k)) :: L) F) : RunL G n P ops Q (⟨some d, .buildSlice t 2 #[(0, x), (1, y)], ty, pos, af, g⟩ :: rest) m L F :=
  l_lit (pv := [(0, .int k b), (1, .int k c)]) (cs := [.int k b, .int k c]) hw hd (fun a he => by simp [he.eval hx, he.eval hy]) (by omega) (by
    simp [Instr.fill, hz, Value.cells]
    apply Array.toList_inj.1
    simp [List.range_succ]) (by simp) (by omega) h
end

/-- Bits that lie apart. -/
theorem or_apart32 (i : Nat) {c y : Int} (hc : 0 ≤ c ∧ c < (2 : Int) ^ i) (hi : c < 4294967296) (hy : 0 ≤ y ∧ y < 4294967296) (h : y % (2 : Int) ^ i = 0) : bits .or .u32 c y = c + y := by
  rw [u32_or c y hc.1 hi hy.1 hy.2]
  obtain ⟨a, rfl⟩ := Int.eq_ofNat_of_zero_le hc.1
  obtain ⟨e, rfl⟩ := Int.eq_ofNat_of_zero_le hy.1
  have h1 : a < 2 ^ i := by have := hc.2; exact_mod_cast this
  have h2 : e % 2 ^ i = 0 := by exact_mod_cast h
  have h3 : 2 ^ i * (e / 2 ^ i) = e := Nat.mul_div_cancel' (Nat.dvd_of_mod_eq_zero h2)
  have h4 := Nat.two_pow_add_eq_or_of_lt h1 (e / 2 ^ i)
  rw [h3] at h4
  simp only [Int.toNat_natCast]
  rw [Nat.or_comm, ← h4]; omega
theorem or_apart64 (i : Nat) {c y : Int} (hc : 0 ≤ c ∧ c < (2 : Int) ^ i) (hi : c < 18446744073709551616) (hy : 0 ≤ y ∧ y < 18446744073709551616) (h : y % (2 : Int) ^ i = 0) : bits .or .u64 y c = y + c := by
  rw [u64_or y c hy.1 hy.2 hc.1 hi]
  obtain ⟨a, rfl⟩ := Int.eq_ofNat_of_zero_le hc.1
  obtain ⟨e, rfl⟩ := Int.eq_ofNat_of_zero_le hy.1
  have h1 : a < 2 ^ i := by have := hc.2; exact_mod_cast this
  have h2 : e % 2 ^ i = 0 := by exact_mod_cast h
  have h3 : 2 ^ i * (e / 2 ^ i) = e := Nat.mul_div_cancel' (Nat.dvd_of_mod_eq_zero h2)
  have h4 := Nat.two_pow_add_eq_or_of_lt h1 (e / 2 ^ i)
  rw [h3] at h4
  simp only [Int.toNat_natCast]
  rw [← h4]; omega
end Go.Proofs.YtbllgmcpebifhaaDoor.K
