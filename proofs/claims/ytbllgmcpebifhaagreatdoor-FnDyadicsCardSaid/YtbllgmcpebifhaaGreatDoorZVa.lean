/- The loop of drawn texts ends: the source behind the code. -/
import Derived.Test.YtbllgmcpebifhaaGreatDoorZKa
import Derived.Test.YtbllgmcpebifhaaGreatDoorZSa

section
namespace Go.Proofs.YtbllgmcpebifhaaGreatDoor.K
/-- The source behind the code's end: the hash, and what is drawn of it. -/
def hx (h : Int) : Int := (h * 6364136223846793005 + 1442695040888963407) % 18446744073709551616
def vx (h : Int) : Int := h / 8589934592 % 16777216
def hi : Nat → Int → Int
  | 0, h => h
  | n + 1, h => hi n (hx h)
theorem hi_add : ∀ (n m : Nat) (h : Int), hi (n + m) h = hi m (hi n h)
  | 0, m, h => by rw [Nat.zero_add]; rfl
  | n + 1, m, h => by rw [Nat.succ_add]; exact hi_add n m (hx h)
def ac : Nat → Int × Int
  | 0 => (6364136223846793005, 1442695040888963407)
  | k + 1 => ((ac k).1 * (ac k).1 % 18446744073709551616, ((ac k).1 * (ac k).2 + (ac k).2) % 18446744073709551616)
theorem lin (A C h M : Int) : (A * ((A * h + C) % M) + C) % M = ((A * A % M) * h + (A * C + C) % M) % M := by
  rw [Int.emod_def (A * h + C), Int.emod_def (A * A), Int.emod_def (A * C + C)]
  generalize (A * h + C) / M = q1
  generalize A * A / M = q2
  generalize (A * C + C) / M = q3
  have e : A * (A * h + C - M * q1) + C = ((A * A - M * q2) * h + (A * C + C - M * q3)) + M * (q2 * h + q3 - A * q1) := by
    simp only [Int.mul_sub, Int.mul_add, Int.sub_mul, Int.mul_assoc, Int.mul_left_comm]
    omega
  rw [e, Int.add_mul_emod_self_left]
theorem hi_two : ∀ (k : Nat) (h : Int), hi (2 ^ k) h = ((ac k).1 * h + (ac k).2) % 18446744073709551616
  | 0, h => by
    show hx h = _
    unfold hx ac
    rw [Int.mul_comm]
  | k + 1, h => by
    rw [Nat.pow_succ, Nat.mul_two, hi_add, hi_two k, hi_two k, lin]
    rfl
theorem ac56 : (ac 56).1 % 144115188075855872 = 1 ∧ (ac 56).2 % 144115188075855872 = 72057594037927936 := by decide +kernel
theorem hi_far' (k : Nat) (h1 : (ac k).1 % 144115188075855872 = 1) (h2 : (ac k).2 % 144115188075855872 = 72057594037927936) (h : Int) : hi (2 ^ k) h % 144115188075855872 = (h + 72057594037927936) % 144115188075855872 := by
  rw [hi_two k h]
  generalize (ac k).1 = A at h1
  generalize (ac k).2 = C at h2
  have e : ((A * h + C) % 18446744073709551616) % 144115188075855872 = (A * h + C) % 144115188075855872 := by omega
  rw [e, Int.add_emod, Int.mul_emod, h1, h2, Int.one_mul, Int.emod_emod, Int.add_emod h]
  rfl
theorem hi_far (h : Int) : hi (2 ^ 56) h % 144115188075855872 = (h + 72057594037927936) % 144115188075855872 := hi_far' 56 ac56.1 ac56.2 h
theorem far3 (h y : Int) (e : y % 144115188075855872 = (h + 72057594037927936) % 144115188075855872) (h0 : h % 144115188075855872 / 8589934592 % 3 = 0) : ¬ y % 144115188075855872 / 8589934592 % 3 = 0 := by
  rw [e]
  have e1 : (h + 72057594037927936) % 144115188075855872 = (h % 144115188075855872 + 72057594037927936) % 144115188075855872 := by omega
  rw [e1]
  have hr : 0 ≤ h % 144115188075855872 ∧ h % 144115188075855872 < 144115188075855872 := by omega
  generalize h % 144115188075855872 = r at *
  have e2 : (r + 72057594037927936) % 144115188075855872 = r + 72057594037927936 ∨ (r + 72057594037927936) % 144115188075855872 = r - 72057594037927936 := by omega
  have e3 : (r + 72057594037927936) / 8589934592 = r / 8589934592 + 8388608 := by omega
  have e4 : (r - 72057594037927936) / 8589934592 = r / 8589934592 - 8388608 := by omega
  rcases e2 with e2 | e2 <;> rw [e2]
  · rw [e3]; omega
  · rw [e4]; omega
theorem vx_is (x : Int) : vx x = x % 144115188075855872 / 8589934592 := by unfold vx; omega
theorem vx_far (h : Int) (h0 : vx h % 3 = 0) : ¬ vx (hi (2 ^ 56) h) % 3 = 0 := by
  rw [vx_is] at h0 ⊢
  exact far3 h _ (hi_far h) h0
/-- Places that are at most two apart meet their own shift by an even number. -/
theorem alt {T : Nat → Prop} (M : Nat) (h0 : T 0) (hs : ∀ q, q ≤ 4 * M + 2 → T q → T (q + 1) ∨ T (q + 2)) (hn : ∀ q, q ≤ 2 * M + 4 → T q → ¬ T (q + (M + M))) : False := by
  have hw : ∀ q, q ≤ 4 * M + 2 → T q ∨ T (q + 1) := fun q => by
    induction q with
    | zero => exact fun _ => .inl h0
    | succ q ih => exact fun hq => (ih (by omega)).elim (fun h => hs q (by omega) h) .inl
  have h2 : ∀ q, M + M ≤ q → q ≤ 4 * M + 2 → T q → T (q + 2) := fun q hq hq2 h => by
    rcases hs q hq2 h with h1 | h1
    · exfalso
      obtain ⟨r, rfl⟩ : ∃ r, q = r + (M + M) := ⟨q - (M + M), by omega⟩
      rcases hw r (by omega) with h3 | h3
      · exact hn _ (by omega) h3 h
      · exact hn _ (by omega) h3 (by rw [show r + 1 + (M + M) = r + (M + M) + 1 by omega]; exact h1)
    · exact h1
  obtain ⟨q, hq, hq2, h⟩ : ∃ q, M + M ≤ q ∧ q ≤ M + M + 1 ∧ T q := (hw (M + M) (by omega)).elim (fun h => ⟨_, Nat.le_refl _, Nat.le_succ _, h⟩) fun h => ⟨_, Nat.le_succ _, Nat.le_refl _, h⟩
  have h3 : ∀ k, k ≤ M → T (q + (k + k)) := fun k => by
    induction k with
    | zero => exact fun _ => h
    | succ k ih =>
      intro hk
      have := h2 _ (by omega) (by omega) (ih (by omega))
      rw [show q + (k + 1 + (k + 1)) = q + (k + k) + 2 by omega]
      exact this
  exact hn q (by omega) h (h3 M (Nat.le_refl _))
/-- Tests two or four calls apart do not all pass. -/
theorem ends (h : Int) (n : Nat → Nat) (hn0 : n 0 = 0) (hn : ∀ j, n (j + 1) = n j + 2 ∨ n (j + 1) = n j + 4) (ht : ∀ j, j ≤ 72057594037927940 → vx (hi (n j) h) % 3 = 0) : False := by
  refine alt (T := fun q => ∃ j, j ≤ q ∧ n j = 2 * q) (2 ^ 54) ⟨0, Nat.le_refl _, by omega⟩ ?_ ?_
  · rintro q hq ⟨j, hjq, hj⟩
    rcases hn j with hk | hk
    · exact .inl ⟨j + 1, by omega, by omega⟩
    · exact .inr ⟨j + 1, by omega, by omega⟩
  · rintro q hq ⟨j, hjq, hj⟩ ⟨k, hkq, hk⟩
    have := vx_far _ (ht j (by omega))
    rw [← hi_add, show n j + 2 ^ 56 = n k by omega] at this
    exact this (ht k (by omega))
/-- The hash h is met behind the code's end, j tests that all passed later. -/
def Chain (h : Int) (j : Nat) : Prop := ∃ (h0 : Int) (n : Nat → Nat), n 0 = 0 ∧ (∀ i, n (i + 1) = n i + 2 ∨ n (i + 1) = n i + 4) ∧ hx h = hi (n j) h0 ∧ ∀ i, i < j → vx (hi (n i) h0) % 3 = 0
theorem Chain.zero (h : Int) : Chain h 0 := ⟨hx h, fun i => 2 * i, rfl, fun i => .inl (show 2 * (i + 1) = 2 * i + 2 by omega), rfl, fun i hi => by omega⟩
theorem Chain.step {h : Int} {j : Nat} (hc : Chain h j) (ht : vx (hx h) % 3 = 0) (d : Nat) (hd : d = 2 ∨ d = 4) : Chain (hi d h) (j + 1) := by
  obtain ⟨h0, n, hn0, hn, hh, hp⟩ := hc
  refine ⟨h0, fun i => if i ≤ j then n i else n j + d + 2 * (i - (j + 1)), ?_, ?_, ?_, ?_⟩
  · show (if 0 ≤ j then n 0 else _) = 0
    rw [if_pos (Nat.zero_le _), hn0]
  · intro i
    show (if i + 1 ≤ j then n (i + 1) else n j + d + 2 * (i + 1 - (j + 1))) = (if i ≤ j then n i else n j + d + 2 * (i - (j + 1))) + 2 ∨ (if i + 1 ≤ j then n (i + 1) else n j + d + 2 * (i + 1 - (j + 1))) = (if i ≤ j then n i else n j + d + 2 * (i - (j + 1))) + 4
    by_cases h1 : i + 1 ≤ j
    · rw [if_pos h1, if_pos (by omega)]
      exact hn i
    · rw [if_neg h1]
      by_cases h2 : i ≤ j
      · rw [if_pos h2, show i = j by omega, Nat.sub_self]
        omega
      · rw [if_neg h2]
        omega
  · show hx (hi d h) = hi (if j + 1 ≤ j then n (j + 1) else n j + d + 2 * (j + 1 - (j + 1))) h0
    rw [if_neg (by omega), Nat.sub_self, Nat.mul_zero, Nat.add_zero, hi_add, ← hh]
    have e : hx (hi d h) = hi (d + 1) h := by rw [hi_add]; rfl
    rw [e, Nat.add_comm, hi_add]
    rfl
  · intro i hij
    show vx (hi (if i ≤ j then n i else n j + d + 2 * (i - (j + 1))) h0) % 3 = 0
    rw [if_pos (by omega)]
    by_cases h1 : i = j
    · rw [h1, ← hh]; exact ht
    · exact hp i (by omega)
theorem Chain.ends {h : Int} {j : Nat} (hc : Chain h j) (ht : vx (hx h) % 3 = 0) : j < 72057594037927940 := Nat.lt_of_not_le fun hj => by
  obtain ⟨h0, n, hn0, hn, hh, hp⟩ := hc
  refine Go.Proofs.YtbllgmcpebifhaaGreatDoor.K.ends h0 n hn0 hn fun i hi => ?_
  by_cases h1 : i < j
  · exact hp i h1
  · rw [show i = j by omega, ← hh]; exact ht
/-- Tests four calls apart: there are not many that all pass. -/
theorem ac_bits : ∀ m, m < 58 → (ac m).1 % 2 ^ (m + 1) = 1 ∧ (ac m).2 % 2 ^ (m + 1) = 2 ^ m := by decide +kernel
theorem mod_lin {A C y P c : Int} (h1 : A % P = 1) (h2 : C % P = c) : (A * y + C) % P = (y + c) % P := by
  have e1 : A = 1 + P * (A / P) := by have := Int.emod_add_mul_ediv A P; omega
  have e2 : C = c + P * (C / P) := by have := Int.emod_add_mul_ediv C P; omega
  have e3 : A * y + C = (y + c) + P * (A / P * y + C / P) := by
    conv => lhs; rw [e1, e2]
    simp only [Int.add_mul, Int.mul_add, Int.one_mul, Int.mul_assoc]
    omega
  rw [e3, Int.add_mul_emod_self_left]
theorem hi_shift (m : Nat) (hm : m < 58) (y : Int) : hi (2 ^ m) y % 2 ^ (m + 1) = (y + 2 ^ m) % 2 ^ (m + 1) := by
  obtain ⟨h1, h2⟩ := ac_bits m hm
  have hd : (2 : Int) ^ (m + 1) ∣ 18446744073709551616 := by
    have : (18446744073709551616 : Int) = 2 ^ (m + 1) * 2 ^ (63 - m) := by
      rw [← Int.pow_add, show m + 1 + (63 - m) = 64 by omega]
      decide
    exact ⟨_, this⟩
  rw [hi_two, Int.emod_emod_of_dvd _ hd]
  exact mod_lin h1 h2
theorem two_mod {P y r : Int} (h : y % P = r % P) : y % (2 * P) = r % (2 * P) ∨ (y + P) % (2 * P) = r % (2 * P) := by
  have h1 := Int.emod_add_mul_ediv y P
  have h2 := Int.emod_add_mul_ediv r P
  rw [h] at h1
  generalize y / P = a at h1
  generalize r / P = b at h2
  rcases (show (a - b) % 2 = 0 ∨ (a - b) % 2 = 1 by omega) with k | k
  · left
    have e : y = r + 2 * P * ((a - b) / 2) := by
      have e1 : 2 * P * ((a - b) / 2) = P * (a - b) := by
        rw [show (2 : Int) * P = P * 2 by omega, Int.mul_assoc]
        congr 1
        omega
      rw [e1, Int.mul_sub]
      omega
    rw [e, Int.add_mul_emod_self_left]
  · right
    have e : y + P = r + 2 * P * ((a - b + 1) / 2) := by
      have e1 : 2 * P * ((a - b + 1) / 2) = P * (a - b + 1) := by
        rw [show (2 : Int) * P = P * 2 by omega, Int.mul_assoc]
        congr 1
        omega
      rw [e1, Int.mul_add, Int.mul_sub]
      omega
    rw [e, Int.add_mul_emod_self_left]
theorem reach : ∀ (m : Nat), m ≤ 50 → ∀ h r : Int, r % 4 = h % 4 → ∃ j, j < 2 ^ m ∧ hi (4 * j) h % 2 ^ (m + 2) = r % 2 ^ (m + 2)
  | 0, _, h, r, hr => ⟨0, by decide, hr.symm⟩
  | m + 1, hm, h, r, hr => by
    obtain ⟨j, hj, he⟩ := reach m (by omega) h r hr
    have e1 : (2 : Int) ^ (m + 1 + 2) = 2 * 2 ^ (m + 2) := by rw [show m + 1 + 2 = m + 2 + 1 by omega, Int.pow_succ, Int.mul_comm]
    rw [e1]
    have hp : 2 ^ (m + 1) = 2 ^ m + 2 ^ m := by rw [Nat.pow_succ]; omega
    rcases two_mod he with h1 | h1
    · exact ⟨j, by omega, h1⟩
    · refine ⟨j + 2 ^ m, by omega, ?_⟩
      rw [Nat.mul_add, show 4 * 2 ^ m = 2 ^ (m + 2) by rw [Nat.pow_add]; omega, hi_add]
      have := hi_shift (m + 2) (by omega) (hi (4 * j) h)
      rw [show m + 2 + 1 = m + 1 + 2 by omega, e1] at this
      rw [this]
      exact h1
theorem ac28 : (ac 28).1 % 144115188075855872 = 20113599208882177 ∧ (ac 28).2 % 144115188075855872 = 55579970528870400 := by decide +kernel
theorem far28 (k : Nat) (h1 : (ac k).1 % 144115188075855872 = 20113599208882177) (h2 : (ac k).2 % 144115188075855872 = 55579970528870400) (r D y : Int) (hD : (20113599208882176 * r + 55579970528870400) % 144115188075855872 = D) (hy : y % 134217728 = r % 134217728) :
    hi (2 ^ k) y % 144115188075855872 = (y + D) % 144115188075855872 := by
  rw [hi_two]
  generalize (ac k).1 = A at h1
  generalize (ac k).2 = C at h2
  obtain ⟨a, ha⟩ : ∃ a, A = 144115188075855872 * a + 20113599208882177 := ⟨A / 144115188075855872, by omega⟩
  rw [ha, Int.add_mul, Int.mul_assoc]
  generalize a * y = z
  omega
theorem modP {P y D : Int} (hP : 0 < P) (hD : 0 ≤ D) (hD2 : D < P) : (y + D) % P = y % P + D ∨ (y + D) % P = y % P + D - P := by
  have h1 : (y + D) % P = (y % P + D) % P := by
    have e : y + D = (y % P + D) + P * (y / P) := by have := Int.emod_add_mul_ediv y P; omega
    conv => lhs; rw [e, Int.add_mul_emod_self_left]
  have hr0 := Int.emod_nonneg y (show P ≠ 0 by omega)
  have hr1 := Int.emod_lt_of_pos y hP
  by_cases h : y % P + D < P
  · left
    rw [h1]
    exact Int.emod_eq_of_lt (by omega) h
  · right
    have e : y % P + D = (y % P + D - P) + P * 1 := by omega
    rw [h1]
    conv => lhs; rw [e, Int.add_mul_emod_self_left]
    exact Int.emod_eq_of_lt (by omega) (by omega)
theorem three {y0 y1 y2 D : Int} (h1 : y1 % 144115188075855872 = (y0 + D) % 144115188075855872) (h2 : y2 % 144115188075855872 = (y1 + D) % 144115188075855872) (hD1 : 17179869184 ≤ D) (hD2 : D < 21474836480)
    (t0 : y0 % 144115188075855872 / 8589934592 % 3 = 0) (t1 : y1 % 144115188075855872 / 8589934592 % 3 = 0) (t2 : y2 % 144115188075855872 / 8589934592 % 3 = 0) : False := by
  have e1 := modP (P := 144115188075855872) (y := y0) (D := D) (by decide) (by omega) (by omega)
  have e2 := modP (P := 144115188075855872) (y := y1) (D := D) (by decide) (by omega) (by omega)
  rw [← h1] at e1
  rw [← h2] at e2
  clear h1 h2
  have r0 := Int.emod_nonneg y0 (show (144115188075855872 : Int) ≠ 0 by decide)
  have s0 := Int.emod_lt_of_pos y0 (show (0 : Int) < 144115188075855872 by decide)
  have r1 := Int.emod_nonneg y1 (show (144115188075855872 : Int) ≠ 0 by decide)
  have s1 := Int.emod_lt_of_pos y1 (show (0 : Int) < 144115188075855872 by decide)
  have r2 := Int.emod_nonneg y2 (show (144115188075855872 : Int) ≠ 0 by decide)
  have s2 := Int.emod_lt_of_pos y2 (show (0 : Int) < 144115188075855872 by decide)
  generalize y0 % 144115188075855872 = z0 at *
  generalize y1 % 144115188075855872 = z1 at *
  generalize y2 % 144115188075855872 = z2 at *
  rcases e1 with e1 | e1
  · rcases e2 with e2 | e2
    · omega
    · omega
  · omega
theorem no_run' (h r D : Int) (hr : r % 4 = h % 4) (hD : (20113599208882176 * r + 55579970528870400) % 144115188075855872 = D) (hD1 : 17179869184 ≤ D) (hD2 : D < 21474836480) (hD3 : D % 134217728 = 0) (ht : ∀ i, i ≤ 268435456 → vx (hi (4 * i) h) % 3 = 0) : False := by
  obtain ⟨j, hj, he⟩ := reach 25 (by omega) h r hr
  rw [show (2 : Int) ^ (25 + 2) = 134217728 by decide] at he
  rw [show (2 : Nat) ^ 25 = 33554432 by decide] at hj
  have e1 : hi (4 * (j + 67108864)) h = hi (2 ^ 28) (hi (4 * j) h) := by rw [show 4 * (j + 67108864) = 4 * j + 2 ^ 28 by omega, hi_add]
  have e2 : hi (4 * (j + 134217728)) h = hi (2 ^ 28) (hi (4 * (j + 67108864)) h) := by rw [show 4 * (j + 134217728) = 4 * (j + 67108864) + 2 ^ 28 by omega, hi_add]
  have k0 := ht j (by omega)
  have k1 := ht (j + 67108864) (by omega)
  have k2 := ht (j + 134217728) (by omega)
  have f1 := far28 28 ac28.1 ac28.2 r D _ hD he
  rw [← e1] at f1
  rw [vx_is] at k0 k1 k2
  have hy1 : hi (4 * (j + 67108864)) h % 134217728 = r % 134217728 := by
    clear k0 k1 k2 e1 e2 hD
    generalize hi (4 * (j + 67108864)) h = y1 at *
    generalize hi (4 * j) h = y0 at *
    omega
  have f2 := far28 28 ac28.1 ac28.2 r D _ hD hy1
  rw [← e2] at f2
  exact three f1 f2 hD1 hD2 k0 k1 k2
theorem no_run (h : Int) (ht : ∀ i, i ≤ 268435456 → vx (hi (4 * i) h) % 3 = 0) : False := by
  rcases (show h % 4 = 0 ∨ h % 4 = 1 ∨ h % 4 = 2 ∨ h % 4 = 3 by omega) with c | c | c | c
  · exact no_run' h 115302864 18522046464 (by omega) (by decide) (by decide) (by decide) (by decide) ht
  · exact no_run' h 66374969 19595788288 (by omega) (by decide) (by decide) (by decide) (by decide) ht
  · exact no_run' h 17447074 20669530112 (by omega) (by decide) (by decide) (by decide) (by decide) ht
  · exact no_run' h 30013031 17448304640 (by omega) (by decide) (by decide) (by decide) (by decide) ht
/-- The hash h is met r tests, all passed, four calls each, later. -/
def Run (h : Int) (r : Nat) : Prop := ∃ h1, hx h = hi (4 * r) h1 ∧ ∀ i, i < r → vx (hi (4 * i) h1) % 3 = 0
theorem Run.zero (h : Int) : Run h 0 := ⟨hx h, rfl, fun i hi => by omega⟩
theorem Run.step {h : Int} {r : Nat} (hr : Run h r) (ht : vx (hx h) % 3 = 0) : Run (hi 4 h) (r + 1) := by
  obtain ⟨h1, e, hp⟩ := hr
  refine ⟨h1, ?_, fun i hi => ?_⟩
  · have e2 : hx (hi 4 h) = hi 4 (hx h) := rfl
    rw [e2, e, ← hi_add]
    rfl
  · by_cases h2 : i = r
    · rw [h2, ← e]; exact ht
    · exact hp i (by omega)
theorem Run.lt {h : Int} {r : Nat} (hr : Run h r) (ht : vx (hx h) % 3 = 0) : r < 268435456 := Nat.lt_of_not_le fun hj => by
  obtain ⟨h1, e, hp⟩ := hr
  refine no_run h1 fun i hi => ?_
  by_cases h2 : i < r
  · exact hp i h2
  · rw [show i = r by omega, ← e]; exact ht
end Go.Proofs.YtbllgmcpebifhaaGreatDoor.K
end

section
/- The source, told exactly; a text that is damaged. -/
namespace Go.Proofs.YtbllgmcpebifhaaGreatDoor.K
open Go Go.RowKit
set_option linter.all false
set_option maxRecDepth 4000
set_option maxHeartbeats 1000000

/-- What a call of the source does: the hash moves on; behind the code's end the number is told. -/
def Nx (N : Nat) (s : Int × Int) (n x : Int) (t : Int × Int) : Prop := t.2 = hx s.2 ∧ (if s.1 < (N : Int) then t.1 = s.1 + 1 else t.1 = s.1 ∧ x = vx (hx s.2) % n)
abbrev NextX (N : Nat) (s : Seed N) (n : Int) : Type := {i : NextR n × Seed N // Nx N s.1 n i.1.1 i.2.1}
section
variable {G : Ctx} {nt : Nat} {P : Program} {ops : Array Oper} {Q : Post} {rest : List Oper} {m : Regs} {L L' : List Own} {F : List Fact} {d : Nat} {ty : TypeId} {pos : String} {af : Array Edge} {g : Option (Nat × Bool)}
theorem l_remX {t yt : TypeId} {a c : Operand} {k : IntKind} {x n : Int} (hw : wantG ops m g = some true) (hx : ev m a = some (.int k x)) (hy : ev m c = some (.int k n)) (hd : Nat.blt d nt = true) (hn : 1 ≤ n) (h0 : 0 ≤ x)
    (h : ∀ r : Int, 0 ≤ r → r < n → r = x % n → RunL G nt P ops Q rest ((d, .int k r) :: m) L F) : RunL G nt P ops Q (⟨some d, .binOp .rem t a c yt, ty, pos, af, g⟩ :: rest) m L F :=
  l_rem hw hx hy hd (by omega) (Int.tmod_eq_emod_of_nonneg h0) (h _ (Int.emod_nonneg _ (by omega)) (Int.emod_lt_of_pos _ (by omega)) rfl)
end
theorem l01NextX_spec (b : Nat) (vc : Value) (code : List Int) (hb : Bytes code) (hl : code.length ≤ 100000) (s : Seed code.length) (n : Int) (hn : n < 4611686018427387904 ∧ 1 ≤ n) : Spec Tryz.prog 70 [pt b, .int .i64 n] [oSrc b vc s] [fCode vc code] (PM (fun i : NextX code.length s n => .int .i64 i.1.1.1) fun i => [oSrc b vc i.1.2]) := by
  refine enter Tryz.func70 Tryz.ntmps70 rfl (by kernel_rfl) zCon rfl fun G => ?_
  refine c_isList (v := vc) zMem fun hsp => ?_
  refine c_lenList (v := vc) zMem fun hll => ?_
  obtain ⟨z1, hz1⟩ : ∃ z, IntKind.u64.wrap (s.1.2 * 6364136223846793005) = z := ⟨_, rfl⟩
  have hs := s.2
  all_goals ((try refine zR3 ?_) <;> (repeat' (with_reducible first | refine And.intro ?_ ?_ | intro _)))
  all_goals first | (exfalso; omega) | skip
  · obtain ⟨h2, hh⟩ : ∃ h2, (z1 + 1442695040888963407) % 18446744073709551616 = h2 := ⟨_, rfl⟩
    have hhx : h2 = hx s.1.2 := by
      rw [← hh, ← hz1, m_u64]
      unfold hx
      omega
    rw [hh]
    have hr : 0 ≤ h2 ∧ h2 < 18446744073709551616 := by omega
    obtain ⟨y, hy, hye⟩ : ∃ y : Int, h2.fdiv (2 ^ (min (33 : Int).toNat IntKind.u64.bits)) = y ∧ y = h2 / 8589934592 := by
      have e : (2 : Int) ^ (min (33 : Int).toNat IntKind.u64.bits) = 8589934592 := by decide
      exact ⟨_, rfl, by rw [e, Int.fdiv_eq_ediv_of_nonneg _ (by decide)]⟩
    obtain ⟨z2, hz2, hz2e⟩ : ∃ z2 : Int, bits .and .u64 y 16777215 = z2 ∧ z2 = y % 16777216 := by
      refine ⟨_, rfl, ?_⟩
      rw [u64_and _ _ (by omega) (by omega) (by decide) (by decide)]
      have e : y.toNat &&& (16777215 : Int).toNat = y.toNat % 16777216 := Nat.and_two_pow_sub_one_eq_mod y.toNat 24
      rw [e]
      omega
    have hv : z2 = vx (hx s.1.2) := by
      rw [hz2e, hye, hhx]
      rfl
    have hz0 : 0 ≤ z2 ∧ z2 ≤ 16777215 := by omega
    refine l_shr rfl rfl rfl rfl (by decide) hy ?_
    have hat : s.1.1 < (code.length : Int) → ∃ w, code[s.1.1.toNat]? = some w ∧ 0 ≤ w ∧ w < 256 := fun h => by
      obtain ⟨w, hw⟩ : ∃ w, code[s.1.1.toNat]? = some w := ⟨_, List.getElem?_eq_getElem (by omega)⟩
      exact ⟨w, hw, hb w (List.mem_of_getElem? hw)⟩
    obtain ⟨k, hk⟩ : ∃ k : Nat, s.1.1 = (k : Int) := ⟨s.1.1.toNat, by omega⟩
    rw [hk] at hat hs ⊢
    by_cases hlt : (k : Int) < (code.length : Int)
    · obtain ⟨w, hw, hw0, hw1⟩ := hat hlt
      rw [Int.toNat_natCast] at hw
      all_goals ((try refine zR3 ?_) <;> (repeat' (with_reducible first | refine And.intro ?_ ?_ | intro _)))
      refine c_draw ([], []) [.box b [vc, .int .i64 (k : Int), .int .u64 h2] 166] [0, 1, 2, 3, 4, 5, 6, 7, 8, 9] (by kernel_rfl) (by kernel_rfl) ?_
      all_goals ((try refine zD3 ?_) <;> (repeat' (with_reducible first | refine And.intro ?_ ?_ | intro _)))
      all_goals (first | (exfalso; omega) | skip)
      refine c_draw ([13], []) [.box b [vc, .int .i64 (k : Int), .int .u64 h2] 166] [0, 1, 2, 3, 4, 5, 6, 7, 8, 9, 10, 11, 12, 13] (by kernel_rfl) (by kernel_rfl) ?_
      all_goals ((try refine zD3 ?_) <;> (repeat' (with_reducible first | refine And.intro ?_ ?_ | intro _)))
      refine l_remX rfl rfl rfl rfl (x := z2 + w) (n := n) (by omega) (by omega) fun r hr0 hr1 _ => ?_
      all_goals ((try refine zR3 ?_) <;> (repeat' (with_reducible first | refine And.intro ?_ ?_ | intro _)))
      exact e_pm ⟨(⟨r, by omega, fun h => by omega, fun _ => hr1⟩, ⟨((k : Int) + 1, h2), by dsimp only; omega⟩), hhx, by rw [hk, if_pos hlt]⟩ rfl zRes (.cons .head .nil) rfl
    · all_goals ((try refine zR3 ?_) <;> (repeat' (with_reducible first | refine And.intro ?_ ?_ | intro _)))
      refine c_draw ([], []) [.box b [vc, .int .i64 (k : Int), .int .u64 h2] 166] [0, 1, 2, 3, 4, 5, 6, 7, 8, 9] (by kernel_rfl) (by kernel_rfl) ?_
      all_goals ((try refine zD3 ?_) <;> (repeat' (with_reducible first | refine And.intro ?_ ?_ | intro _)))
      all_goals (first | (exfalso; omega) | skip)
      refine l_remX rfl rfl rfl rfl (x := z2) (n := n) (by omega) (by omega) fun r hr0 hr1 hre => ?_
      all_goals ((try refine zR3 ?_) <;> (repeat' (with_reducible first | refine And.intro ?_ ?_ | intro _)))
      exact e_pm ⟨(⟨r, by omega, fun h => by omega, fun _ => hr1⟩, ⟨((k : Int), h2), by dsimp only; omega⟩), hhx, by rw [hk, if_neg hlt]; exact ⟨rfl, hre.trans (by rw [hv])⟩⟩ rfl zRes (.cons .head .nil) rfl
end Go.Proofs.YtbllgmcpebifhaaGreatDoor.K
end

section
/- A text that is damaged. -/
namespace Go.Proofs.YtbllgmcpebifhaaGreatDoor.K
open Go Go.RowKit
set_option linter.all false
set_option maxRecDepth 4000
set_option maxHeartbeats 1000000

/-- Texts of one byte. -/
inductive PB : List Value → Prop
  | nil : PB []
  | cons {c : UInt8} {r : List Value} : PB r → PB (.string ⟨#[c]⟩ :: r)
theorem PB.get {l : List Value} (h : PB l) : ∀ {k : Nat} {y : Value}, l[k]? = some y → ∃ c : UInt8, y = .string ⟨#[c]⟩ := by
  induction h with
  | nil => intro k y h; simp at h
  | cons _ ih =>
    intro k y h
    cases k with
    | zero => injection h with h; exact ⟨_, h.symm⟩
    | succ k => exact ih h
theorem PB.ones {l : List Value} (h : PB l) : ∀ x ∈ l, x.cells = #[x] := by
  induction h with
  | nil => intro x h; cases h
  | cons _ ih => intro x h; cases h with
    | head => rfl
    | tail _ h => exact ih x h
theorem l_litB {G : Ctx} {n : Nat} {P : Program} {ops : Array Oper} {Q : Post} {rest : List Oper} {m : Regs} {L : List Own} {F : List Fact} {d : Nat} {ty : TypeId} {pos : String} {af : Array Edge} {g : Option (Nat × Bool)}
    {t e : TypeId} {z : Value} {by' : Nat} [u : Und P t (.slice e)] [f : Inf P e z 1 by'] {k : Nat} {parts : Array (Nat × Operand)} {vs : List Value}
    (hw : wantG ops m g = some true) (hd : Nat.blt d n = true) (hv : Evs m (parts.toList.map (·.2)) vs) (hp : parts.toList.map (·.1) = List.range' 0 k) (hk : vs.length = k) (hz : z.cells = #[z]) (hpl : PB vs) (hk1 : Nat.blt k 1000 = true)
    (h : ∀ v us, IsSl v → PB us → us.length = k → RunL G n P ops Q rest ((d, v) :: m) L (fList 1 rRaw v us :: F)) : RunL G n P ops Q (⟨some d, .buildSlice t k parts, ty, pos, af, g⟩ :: rest) m L F := by
  refine l_litN hw hd hv hp hk hz hpl.ones hk1 fun v => ?_
  refine l_frzRaw .head ?_
  exact l_isList (.head _) fun hs => h v vs hs hpl hk
/-- What a text's damage does with the source. -/
def Dm (N : Nat) (s t : Int × Int) (d : Nat) : Prop := t.2 = hi d s.2 ∧ (s.1 < (N : Int) → s.1 < t.1) ∧ (s.1 = (N : Int) → t.1 = (N : Int))
abbrev DmT (N : Nat) (s : Seed N) (k : Nat) : Type := {i : List UInt8 × Seed N // i.1.length ≤ k + 1 ∧ Dm N s.1 i.2.1 (if k = 0 then 1 else 3)}
theorem nx_one {N : Nat} {s t : Seed N} {n x : Int} (h : Nx N s.1 n x t.1) : Dm N s.1 t.1 1 := by
  obtain ⟨h1, h2⟩ := h
  refine ⟨h1, fun h => ?_, fun h => ?_⟩
  · rw [if_pos h] at h2; omega
  · rw [if_neg (by omega)] at h2; omega
theorem dm_step {N : Nat} {s t r : Seed N} {n x : Int} {d : Nat} (h : Dm N s.1 t.1 d) (h2 : Nx N t.1 n x r.1) : Dm N s.1 r.1 (d + 1) := by
  obtain ⟨h3, h4, h5⟩ := nx_one h2
  obtain ⟨k1, k2, k3⟩ := h
  refine ⟨?_, fun h => ?_, fun h => h5 (k3 h)⟩
  · rw [h3, k1, ← hi_add]
  · have := k2 h
    have ht := t.2
    by_cases e : t.1.1 < (N : Int)
    · have := h4 e; omega
    · have := h5 (by omega); omega
theorem l01Damage_spec (b : Nat) (vc : Value) (code : List Int) (hb : Bytes code) (hl : code.length ≤ 100000) (s : Seed code.length) (t : List UInt8) (ht : t.length ≤ 4000000000000000000) : Spec Tryz.prog 118 [pt b, .string ⟨t.toArray⟩] [oSrc b vc s] [fCode vc code] (PM (fun i : DmT code.length s t.length => .string ⟨i.1.1.toArray⟩) fun i => [oSrc b vc i.1.2]) := by
  refine enter Tryz.func118 Tryz.ntmps118 rfl (by kernel_rfl) zCon rfl fun G => ?_
  refine c_isList (v := vc) zMem fun hsp => ?_
  have hN := l01NextX_spec b vc code hb hl
  all_goals (((try refine zR3 ?_) <;> (repeat' (with_reducible first | refine And.intro ?_ ?_ | intro _))) <;> (repeat' ((first | (refine l_litB rfl rfl zEvs rfl rfl rfl (by repeat (first | exact PB.nil | refine PB.cons ?_)) rfl (fun v us hsv hpb hus => ?_))) <;> ((try refine zR3 ?_) <;> (repeat' (with_reducible first | refine And.intro ?_ ?_ | intro _))))))
  refine l_callM rfl rfl zEvs rfl (hN s (us.length : Int) (by omega)) zTake zFsub fun i => ?_
  obtain ⟨⟨⟨x, hx0, _, hx2⟩, s1⟩, hs1⟩ := i
  dsimp only at hs1 ⊢
  have hx3 := hx2 (by omega)
  obtain ⟨k, rfl⟩ : ∃ k : Nat, x = (k : Int) := ⟨x.toNat, by omega⟩
  obtain ⟨y, hy⟩ : ∃ y, us[k]? = some y := ⟨_, List.getElem?_eq_getElem (by omega)⟩
  obtain ⟨c, rfl⟩ := hpb.get hy
  have hd1 := nx_one hs1
  all_goals ((try refine zR3 ?_) <;> (repeat' (with_reducible first | refine And.intro ?_ ?_ | intro _)))
  refine l_loadRaw rfl rfl zMem rfl hy rfl ?_
  all_goals ((try refine zR3 ?_) <;> (repeat' (with_reducible first | refine And.intro ?_ ?_ | intro _)))
  · have ht0 : t.length = 0 := by omega
    exact e_pm ⟨([c], s1), by simp, by rw [ht0]; exact hd1⟩ rfl zRes (.cons .head .nil) rfl
  · refine l_callM rfl rfl zEvs rfl (hN s1 (t.length : Int) (by omega)) zTake zFsub fun i => ?_
    obtain ⟨⟨⟨x, hx0, _, hx2⟩, s2⟩, hs2⟩ := i
    dsimp only at hs2 ⊢
    have hx3 := hx2 (by omega)
    obtain ⟨j, rfl⟩ : ∃ j : Nat, x = (j : Int) := ⟨x.toNat, by omega⟩
    have hd2 := dm_step hd1 hs2
    all_goals ((try refine zR3 ?_) <;> (repeat' (with_reducible first | refine And.intro ?_ ?_ | intro _)))
    refine l_callM rfl rfl zEvs rfl (hN s2 3 (by omega)) zTake zFsub fun i => ?_
    obtain ⟨⟨⟨x, hx0, _, hx2⟩, s3⟩, hs3⟩ := i
    dsimp only at hs3 ⊢
    have hd3 := dm_step hd2 hs3
    have e3 : (if t.length = 0 then 1 else 3) = 1 + 1 + 1 := by rw [if_neg (by omega)]
    rw [← e3] at hd3
    all_goals ((try refine zR3 ?_) <;> (repeat' (with_reducible first | refine And.intro ?_ ?_ | intro _)))
    · refine c_draw ([10], []) [] [0, 1, 2, 3, 4, 5, 6, 7, 8, 9, 10] (by kernel_rfl) (by kernel_rfl) ?_
      all_goals ((try refine zD3 ?_) <;> (repeat' (with_reducible first | refine And.intro ?_ ?_ | intro _)))
      refine e_pm ⟨(_, s3), ?_, hd3⟩ rfl zRes (.cons .head .nil) rfl
      simp only [List.length_append, List.length_take, List.length_drop, List.length_cons, List.length_nil]
      omega
    · refine c_draw ([8], []) [] [0, 1, 2, 3, 4, 5, 6, 7, 8] (by kernel_rfl) (by kernel_rfl) ?_
      all_goals ((try refine zD3 ?_) <;> (repeat' (with_reducible first | refine And.intro ?_ ?_ | intro _)))
      refine e_pm ⟨(_, s3), ?_, hd3⟩ rfl zRes (.cons .head .nil) rfl
      simp only [List.length_append, List.length_take, List.length_drop, List.length_cons, List.length_nil]
      omega
    · refine c_draw ([9], []) [] [0, 1, 2, 3, 4, 5, 6, 7, 8, 9] (by kernel_rfl) (by kernel_rfl) ?_
      all_goals ((try refine zD3 ?_) <;> (repeat' (with_reducible first | refine And.intro ?_ ?_ | intro _)))
      refine e_pm ⟨(_, s3), ?_, hd3⟩ rfl zRes (.cons .head .nil) rfl
      simp only [List.length_append, List.length_take, List.length_drop, List.length_cons, List.length_nil]
      omega
end Go.Proofs.YtbllgmcpebifhaaGreatDoor.K
end
