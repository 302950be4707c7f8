/- The reference's whole numbers: shifts. -/
import Derived.Test.YtbllgmcpebifhaaGreatDoorZJe
namespace Go.Proofs.YtbllgmcpebifhaaGreatDoor.K
open Go Go.RowKit Go.Lib
set_option linter.all false
set_option maxRecDepth 4000
set_option maxHeartbeats 1000000

/-- One digit of a shift up. -/
theorem left_step (o : List Int) (q i r : Nat) (c x : Int) (V : Nat) (ho : o.length = q + i) (hc : 0 ≤ c) (hx : 0 ≤ x) (h : vl 16777216 o + 16777216 ^ (q + i) * c.toNat = 2 ^ r * 16777216 ^ q * V) :
    vl 16777216 (o ++ [(c + x * 2 ^ r) % 16777216]) + 16777216 ^ (q + (i + 1)) * ((c + x * 2 ^ r) / 16777216).toNat = 2 ^ r * 16777216 ^ q * (V + 16777216 ^ i * x.toNat) := by
  obtain ⟨y, rfl⟩ := Int.eq_ofNat_of_zero_le hx
  obtain ⟨d, rfl⟩ := Int.eq_ofNat_of_zero_le hc
  have e2 : (2 : Int) ^ r = ((2 ^ r : Nat) : Int) := by simp
  rw [e2, vl_append, ho, ← Nat.add_assoc, Nat.pow_succ]
  generalize hS : 2 ^ r = S at h ⊢
  generalize hK : 16777216 ^ (q + i) = K at h ⊢
  have hK2 : K = 16777216 ^ q * 16777216 ^ i := by rw [← hK, Nat.pow_add]
  simp only [vl, Nat.mul_zero, Nat.add_zero, Int.toNat_natCast] at h ⊢
  have e3 : (((d : Int) + (y : Int) * (S : Int)) % 16777216).toNat = (d + y * S) % 16777216 := by
    rw [← Int.natCast_mul, ← Int.natCast_add]; omega
  have e4 : (((d : Int) + (y : Int) * (S : Int)) / 16777216).toNat = (d + y * S) / 16777216 := by
    rw [← Int.natCast_mul, ← Int.natCast_add]; omega
  rw [e3, e4]
  have h1 := Nat.div_add_mod (d + y * S) 16777216
  have h2 : K * ((d + y * S) % 16777216) + K * 16777216 * ((d + y * S) / 16777216) = K * d + K * (y * S) := by
    rw [Nat.mul_assoc, ← Nat.mul_add, ← Nat.mul_add, Nat.add_comm (_ % _), h1]
  have h3 : S * 16777216 ^ q * (V + 16777216 ^ i * y) = S * 16777216 ^ q * V + K * (y * S) := by
    rw [Nat.mul_add, hK2]
    congr 1
    simp only [Nat.mul_assoc, Nat.mul_comm, Nat.mul_left_comm]
  rw [h3, ← h]
  omega
theorem shl_fit (y : Int) (hy : 0 ≤ y ∧ y < 16777216) (r : Nat) (hr : r ≤ 24) (q : Int) (hq : q.toNat = r) : IntKind.i64.wrap (y * 2 ^ (min q.toNat IntKind.i64.bits)) = y * 2 ^ r ∧ 0 ≤ y * 2 ^ r ∧ y * 2 ^ r ≤ 281474959933440 := by
  have e : min q.toNat IntKind.i64.bits = r := by rw [hq]; exact Nat.min_eq_left (by show r ≤ 64; omega)
  rw [e]
  have h1 : (2 : Int) ^ r ≤ 16777216 := by
    have : (2 : Nat) ^ r ≤ 2 ^ 24 := Nat.pow_le_pow_right (by omega) hr
    have h3 : (2 : Nat) ^ 24 = 16777216 := by decide
    have h4 : (2 : Int) ^ r = ((2 ^ r : Nat) : Int) := by simp
    omega
  have h0 : 0 < (2 : Int) ^ r := Int.pow_pos (by decide)
  generalize (2 : Int) ^ r = S at h0 h1
  have h2 : 0 ≤ y * S := Int.mul_nonneg hy.1 (by omega)
  have h3 : y * S ≤ 16777215 * 16777216 := by
    have a1 : y * S ≤ 16777215 * S := Int.mul_le_mul_of_nonneg_right (by omega) (by omega)
    omega
  exact ⟨by rw [IntKind.wrap_i64]; omega, h2, by omega⟩

theorem l02Left_spec (u : Value) (v : Int) (k : Nat) (hl : (limbs v.natAbs).length ≤ 550) (hk : k ≤ 10000) : Spec Tryz.prog 170 [vWhole (sgn v) u, .int .i64 (k : Int)] [] [fList 1 (rInt .i64) u (limbs v.natAbs)] (PWh (v * (2 ^ k : Nat))) := by
  refine enter Tryz.func170 Tryz.ntmps170 rfl (by kernel_rfl) zCon rfl fun G => ?_
  refine c_isList (v := u) zMem fun hsu => ?_
  have hr := limbs_range v.natAbs
  have hv := limbs_val v.natAbs
  revert hr hv hl
  generalize limbs v.natAbs = l
  intro hl hr hv
  all_goals ((try refine zR ?_) <;> (repeat' (with_reducible first | refine And.intro ?_ ?_ | intro _)))
  rename_i bA b4 r0
  have hz0 : vl 16777216 (List.replicate (k / 24) 0) = 0 := vl_zeros _ _ (fun x hx => List.eq_of_mem_replicate hx)
  refine c_while (ι := { p : Nat × Value × List Int × Int // InR 16777216 p.2.2.1 ∧ p.2.2.1.length = k / 24 + p.1 ∧ (0 ≤ p.2.2.2 ∧ p.2.2.2 < 16777216) ∧ p.1 ≤ l.length ∧ vl 16777216 p.2.2.1 + 16777216 ^ (k / 24 + p.1) * p.2.2.2.toNat = 2 ^ (k % 24) * 16777216 ^ (k / 24) * vl 16777216 (l.take p.1) })
    (κ := { p : Value × List Int × Int // InR 16777216 p.2.1 ∧ p.2.1.length = k / 24 + l.length ∧ (0 ≤ p.2.2 ∧ p.2.2 < 16777216) ∧ vl 16777216 p.2.1 + 16777216 ^ (k / 24 + l.length) * p.2.2.toNat = 2 ^ (k % 24) * 16777216 ^ (k / 24) * vl 16777216 l })
    (fun p => [(7, .int .i64 (p.1.1 : Int)), (6, .int .i64 p.1.2.2.2), (5, p.1.2.1), (4, ptr b4), (2, ptr bA), (1, .int .i64 (k : Int))]) (fun p => [.row p.1.2.1 2 1 p.1.2.2.1.length (p.1.2.2.1.map (Value.int .i64)), .box b4 [.int .i64 0, .slice none 0 0] 46, .box bA [.int .i64 (sgn v), u] 46]) (fun _ => [fList 1 (rInt .i64) u l]) (fun p => l.length - p.1.1)
    (fun p => [(6, .int .i64 p.1.2.2), (5, p.1.1), (4, ptr b4), (2, ptr bA)]) (fun p => [.row p.1.1 2 1 p.1.2.1.length (p.1.2.1.map (Value.int .i64)), .box b4 [.int .i64 0, .slice none 0 0] 46, .box bA [.int .i64 (sgn v), u] 46]) (fun _ => [fList 1 (rInt .i64) u l])
    ⟨(0, r0, List.replicate (k / 24) 0, 0), (fun x hx => by rw [List.eq_of_mem_replicate hx]; decide), by simp, ⟨Int.le_refl 0, (by decide : (0 : Int) < 16777216)⟩, Nat.zero_le _, by dsimp only; rw [hz0]; simp [vl]⟩ (fun a w s => s.start zSub (by simp) zFsub) ?_ ?_
  · rintro ⟨⟨i, r, o, c⟩, ho, hol, ⟨hc0, hc1⟩, hi, hinv⟩
    dsimp only at ho hol hc0 hc1 hi hinv ⊢
    by_cases hil : i < l.length
    · have hy := hr _ (List.getElem_mem hil)
      have hget : l[i]? = some l[i] := List.getElem?_eq_getElem hil
      have htk : vl 16777216 (l.take (i + 1)) = vl 16777216 (l.take i) + 16777216 ^ i * l[i].toNat := by rw [vl_tk, getD_lt hil]
      revert hy hget htk
      generalize l[i] = y
      intro hy hget htk
      have hstep := left_step o (k / 24) i (k % 24) c y _ hol hc0 hy.1 hinv
      rw [← htk] at hstep
      clear hinv htk
      obtain ⟨hw, hp1, hp2⟩ := shl_fit y hy (k % 24) (by omega) ((k : Int) % 24) (by omega)
      all_goals ((try refine zR ?_) <;> (repeat' (with_reducible first | refine And.intro ?_ ?_ | intro _)))
      all_goals (first | (exfalso; omega) | skip)
      refine l_shl rfl rfl rfl rfl (by omega) hw ?_
      revert hstep hp1 hp2
      clear hw
      generalize y * 2 ^ (k % 24) = z
      intro hstep hp1 hp2
      all_goals ((try refine zR ?_) <;> (repeat' (with_reducible first | refine And.intro ?_ ?_ | intro _)))
      all_goals (first | (exfalso; omega) | skip)
      rename_i v0 v'
      exact e_again ⟨(i + 1, v', o ++ [(c + z) % 16777216], (c + z) / 16777216), ho.snoc' (by omega), by simp [hol]; omega, ⟨by dsimp only; omega, by dsimp only; omega⟩, hil, hstep⟩ (by dsimp only; omega) zSub (by dsimp only; rw [show (o ++ [(c + z) % 16777216]).length = o.length + 1 from List.length_append]) (fun _ h => h)
    · all_goals ((try refine zR ?_) <;> (repeat' (with_reducible first | refine And.intro ?_ ?_ | intro _)))
      all_goals (first | (exfalso; omega) | skip)
      have hii : i = l.length := by omega
      rw [hii, List.take_length] at hinv
      rw [hii] at hol
      exact e_out ⟨(r, o, c), ho, hol, ⟨hc0, hc1⟩, hinv⟩ zSub rfl (fun _ h => h)
  · rintro ⟨⟨r, o, c⟩, ho, hol, ⟨hc0, hc1⟩, hinv⟩
    dsimp only at ho hol hc0 hc1 hinv ⊢
    have hval : vl 16777216 (o ++ [c]) = (v * (2 ^ k : Nat)).natAbs := by
      rw [vl_append, hol]
      simp only [vl, Nat.mul_zero, Nat.add_zero]
      rw [hinv, hv, Int.natAbs_mul, Int.natAbs_natCast, Nat.mul_comm]
      congr 1
      rw [show (16777216 : Nat) = 2 ^ 24 by decide, ← Nat.pow_mul, ← Nat.pow_add]
      congr 1
      omega
    have hsv : v * (2 ^ k : Nat) ≠ 0 → sgn v = sgn (v * (2 ^ k : Nat)) := fun _ => by
      have hp : (0 : Int) < ((2 ^ k : Nat) : Int) := by exact_mod_cast Nat.pow_pos (by omega)
      unfold sgn
      by_cases h1 : v = 0
      · rw [h1, Int.zero_mul]
      · rw [if_neg h1, if_neg (Int.mul_ne_zero h1 (by omega))]
        by_cases h2 : v < 0
        · rw [if_pos h2, if_pos (Int.mul_neg_of_neg_of_pos h2 hp)]
        · rw [if_neg h2, if_neg (by have := Int.mul_nonneg (a := v) (by omega) (Int.le_of_lt hp); omega)]
    all_goals ((try refine zR ?_) <;> (repeat' (with_reducible first | refine And.intro ?_ ?_ | intro _)))
    refine c_draw ([6, 7], []) [.box bA [.int .i64 (sgn v), u] 46] [0, 1, 2, 3, 4, 5, 6, 7] (by kernel_rfl) (by kernel_rfl) ?_
    all_goals ((try refine zD ?_) <;> (repeat' (with_reducible first | refine And.intro ?_ ?_ | intro _)))
    rename_i v0 v'
    refine l_freezeInts (ik := .i64) (l := o ++ [c]) .head (by simp) ?_
    refine l_call rfl zEvs rfl (l02MakeV_spec (sgn v) v' (o ++ [c]) (by simp [hol]; omega) (ho.snoc' (by omega))) zTake zFsub ?_
    rintro _ L' F' ⟨w', rfl, rfl, rfl⟩
    refine l_isList (.head _) fun hs' => ?_
    rw [hval, made_sgn rfl hsv]
    all_goals ((try refine zD ?_) <;> (repeat' (with_reducible first | refine And.intro ?_ ?_ | intro _)))
    exact e_resT rfl zRes .nil (fsub_cons zMem fsub_nil) ⟨w', rfl, rfl, rfl⟩

def rsh24 (s : Nat) : List Int → List Int
  | [] => []
  | x :: r => ((x / 2 ^ s + r.headD 0 * 2 ^ (24 - s)) % 16777216) :: rsh24 s r
theorem rsh24_len (s : Nat) (l : List Int) : (rsh24 s l).length = l.length := by
  induction l with
  | nil => rfl
  | cons x r ih => simp [rsh24, ih]
theorem rsh24_range (s : Nat) (l : List Int) : InR 16777216 (rsh24 s l) := by
  induction l with
  | nil => intro x hx; cases hx
  | cons x r ih =>
    intro y hy
    cases hy with
    | head => omega
    | tail _ hy => exact ih y hy
theorem rsh24_val (s : Nat) (hs : s ≤ 24) (l : List Int) (h : InR 16777216 l) : vl 16777216 (rsh24 s l) = vl 16777216 l / 2 ^ s := by
  induction l with
  | nil => simp [rsh24, vl]
  | cons x r ih =>
    have ih := ih h.tail
    have hx := h.head
    have hy := InR.headD h.tail (by omega)
    obtain ⟨W, hW⟩ := vl_head 16777216 r
    have hST : (16777216 : Nat) = 2 ^ s * 2 ^ (24 - s) := by rw [← Nat.pow_add, show s + (24 - s) = 24 by omega]
    have := rsh_step (2 ^ s) (2 ^ (24 - s)) x.toNat (r.headD 0).toNat W (Nat.pow_pos (by omega)) (by rw [← hST]; omega)
    rw [← hST] at this
    rw [rsh24, vl, vl, ih, hW, ← this]
    congr 1
    obtain ⟨a, ha⟩ := Int.eq_ofNat_of_zero_le hx.1
    obtain ⟨e, he⟩ := Int.eq_ofNat_of_zero_le hy.1
    rw [he, ha]
    have e1 : (2 : Int) ^ s = ((2 ^ s : Nat) : Int) := by simp
    have e2 : (2 : Int) ^ (24 - s) = ((2 ^ (24 - s) : Nat) : Int) := by simp
    rw [e1, e2]
    simp only [Int.toNat_natCast]
    have e3 : (a + e * 16777216) / 2 ^ s = a / 2 ^ s + e * 2 ^ (24 - s) := by
      rw [hST, show e * (2 ^ s * 2 ^ (24 - s)) = 2 ^ s * (e * 2 ^ (24 - s)) by simp only [Nat.mul_left_comm], Nat.add_mul_div_left _ _ (Nat.pow_pos (by omega))]
    rw [e3]
    generalize 2 ^ s = S
    generalize 2 ^ (24 - s) = T
    rw [← Int.natCast_ediv, ← Int.natCast_mul, ← Int.natCast_add]
    omega
theorem rsh24_get (s : Nat) (l : List Int) (j : Nat) (hj : j < l.length) : (rsh24 s l)[j]? = some ((l[j] / 2 ^ s + l.getD (j + 1) 0 * 2 ^ (24 - s)) % 16777216) := by
  induction l generalizing j with
  | nil => simp at hj
  | cons x r ih =>
    cases j with
    | zero =>
      rw [rsh24]
      cases r <;> simp
    | succ j =>
      rw [rsh24]
      simp at hj
      have := ih j hj
      simpa using this
theorem tdiv_abs (v : Int) (d : Nat) : (v.tdiv d).natAbs = v.natAbs / d := by rw [Int.natAbs_tdiv, Int.natAbs_natCast]; rfl

theorem l02Cut_spec (u : Value) (v : Int) (k : Nat) (hl : (limbs v.natAbs).length ≤ 900) (hk : k ≤ 90000) : Spec Tryz.prog 187 [vWhole (sgn v) u, .int .i64 (k : Int)] [] [fList 1 (rInt .i64) u (limbs v.natAbs)] (PWh (v.tdiv (2 ^ k : Nat))) := by
  refine enter Tryz.func187 Tryz.ntmps187 rfl (by kernel_rfl) zCon rfl fun G => ?_
  refine c_isList (v := u) zMem fun hsu => ?_
  have hr := limbs_range v.natAbs
  have hv := limbs_val v.natAbs
  revert hr hv hl
  generalize limbs v.natAbs = l
  intro hl hr hv
  obtain ⟨D, hD⟩ : ∃ D, rsh24 (k % 24) (l.drop (k / 24)) = D := ⟨_, rfl⟩
  have hDr := rsh24_range (k % 24) (l.drop (k / 24))
  have hDl := rsh24_len (k % 24) (l.drop (k / 24))
  have hDv := rsh24_val (k % 24) (by omega) (l.drop (k / 24)) (hr.drop _)
  rw [hD] at hDr hDl hDv
  rw [List.length_drop] at hDl
  have hDval : vl 16777216 D = (v.tdiv (2 ^ k : Nat)).natAbs := by
    rw [hDv, vl_drop_div 16777216 (by omega) l hr, hv, tdiv_abs, Nat.div_div_eq_div_mul]
    congr 1
    rw [show (16777216 : Nat) = 2 ^ 24 by decide, ← Nat.pow_mul, ← Nat.pow_add]
    congr 1
    omega
  all_goals ((try refine zR ?_) <;> (repeat' (with_reducible first | refine And.intro ?_ ?_ | intro _)))
  rename_i bA b4 r0
  refine c_while (ι := { p : Nat × Value // p.1 ≤ D.length }) (κ := Value)
    (fun p => [(6, .int .i64 (((k / 24 + p.1.1 : Nat)) : Int)), (5, p.1.2), (4, ptr b4), (2, ptr bA), (1, .int .i64 (k : Int))]) (fun p => [.row p.1.2 2 1 (D.take p.1.1).length ((D.take p.1.1).map (Value.int .i64)), .box b4 [.int .i64 0, .slice none 0 0] 46, .box bA [.int .i64 (sgn v), u] 46]) (fun _ => [fList 1 (rInt .i64) u l]) (fun p => D.length - p.1.1)
    (fun r => [(5, r), (4, ptr b4), (2, ptr bA)]) (fun r => [.row r 2 1 D.length (D.map (Value.int .i64)), .box b4 [.int .i64 0, .slice none 0 0] 46, .box bA [.int .i64 (sgn v), u] 46]) (fun _ => [fList 1 (rInt .i64) u l])
    ⟨(0, r0), Nat.zero_le _⟩ (fun a w s => s.start zSub (by simp) zFsub) ?_ ?_
  · rintro ⟨⟨j, r⟩, hj⟩
    dsimp only at hj ⊢
    by_cases hjl : j < D.length
    · have hil : k / 24 + j < l.length := by omega
      have hDj := rsh24_get (k % 24) (l.drop (k / 24)) j (by rw [List.length_drop]; omega)
      rw [hD, List.getElem?_eq_getElem hjl] at hDj
      have hDj := Option.some.inj hDj
      have hgn : (l.drop (k / 24)).getD (j + 1) 0 = l.getD (k / 24 + j + 1) 0 := by rw [List.getD_eq_getElem?_getD, List.getElem?_drop, List.getD_eq_getElem?_getD]; congr 2
      rw [List.getElem_drop, hgn] at hDj
      have hy := hr _ (List.getElem_mem hil)
      have hget : l[k / 24 + j]? = some l[k / 24 + j] := List.getElem?_eq_getElem hil
      revert hy hget hDj
      generalize l[k / 24 + j] = y
      intro hDj hy hget
      have hpd : y / 2 ^ (k % 24) = ((y.toNat / 2 ^ (k % 24) : Nat) : Int) := by
        obtain ⟨a, rfl⟩ := Int.eq_ofNat_of_zero_le hy.1
        simp
      have hpl : y.toNat / 2 ^ (k % 24) < 16777216 := Nat.lt_of_le_of_lt (Nat.div_le_self _ _) (by omega)
      have htk : D.take (j + 1) = D.take j ++ [D[j]] := List.take_succ_eq_append_getElem hjl
      have hlt : (D.take j).length ≤ 900 := by rw [List.length_take]; omega
      rw [hpd] at hDj
      rw [hDj] at htk
      clear hDj
      all_goals ((try refine zR ?_) <;> (repeat' (with_reducible first | refine And.intro ?_ ?_ | intro _)))
      all_goals (first | (exfalso; omega) | skip)
      refine l_shr rfl rfl rfl rfl (by omega) (shr_nat y hy.1 k (k % 24) 64 (by omega) _ (by omega)) ?_
      revert htk hpl
      clear hpd hget hy
      generalize y.toNat / 2 ^ (k % 24) = p
      intro hpl htk
      by_cases hnx : k / 24 + j + 1 < l.length
      · have hz := hr _ (List.getElem_mem hnx)
        have hget2 : l[k / 24 + j + 1]? = some l[k / 24 + j + 1] := List.getElem?_eq_getElem hnx
        rw [getD_lt hnx] at htk
        revert hz hget2 htk
        generalize l[k / 24 + j + 1] = z
        intro htk hz hget2
        obtain ⟨hw, hp1, hp2⟩ := shl_fit z hz (24 - k % 24) (by omega) (24 - (k : Int) % 24) (by omega)
        all_goals ((try refine zR ?_) <;> (repeat' (with_reducible first | refine And.intro ?_ ?_ | intro _)))
        all_goals (first | (exfalso; omega) | skip)
        refine l_shl rfl rfl rfl rfl (by omega) hw ?_
        revert htk hp1 hp2
        clear hw
        generalize z * 2 ^ (24 - k % 24) = t
        intro htk hp1 hp2
        all_goals ((try refine zR ?_) <;> (repeat' (with_reducible first | refine And.intro ?_ ?_ | intro _)))
        all_goals (first | (exfalso; omega) | skip)
        rename_i v0 v'
        exact e_again ⟨(j + 1, v'), hjl⟩ (by dsimp only; omega) zSub (by dsimp only; rw [htk, show (D.take j ++ [((p : Int) + t) % 16777216]).length = (D.take j).length + 1 from List.length_append]) (fun _ h => h)
      · rw [getD_ge hnx, Int.zero_mul, Int.add_zero, Int.emod_eq_of_lt (by omega) (by omega)] at htk
        all_goals ((try refine zR ?_) <;> (repeat' (with_reducible first | refine And.intro ?_ ?_ | intro _)))
        all_goals (first | (exfalso; omega) | skip)
        rename_i v0 v'
        exact e_again ⟨(j + 1, v'), hjl⟩ (by dsimp only; omega) zSub (by dsimp only; rw [htk, show (D.take j ++ [(p : Int)]).length = (D.take j).length + 1 from List.length_append]) (fun _ h => h)
    · have hjj : j = D.length := by omega
      subst hjj
      all_goals ((try refine zR ?_) <;> (repeat' (with_reducible first | refine And.intro ?_ ?_ | intro _)))
      all_goals (first | (exfalso; omega) | skip)
      exact e_out r zSub (by rw [List.take_length]) (fun _ h => h)
  · intro r
    have hsv : v.tdiv (2 ^ k : Nat) ≠ 0 → sgn v = sgn (v.tdiv (2 ^ k : Nat)) := fun h0 => by
      have hp : (0 : Int) ≤ ((2 ^ k : Nat) : Int) := Int.natCast_nonneg _
      unfold sgn
      by_cases h1 : v = 0
      · rw [h1, Int.zero_tdiv] at h0; exact absurd rfl h0
      · rw [if_neg h1, if_neg h0]
        by_cases h2 : v < 0
        · have h3 : v.tdiv (2 ^ k : Nat) ≤ 0 := by
            have h4 := Int.tdiv_nonneg (by omega : 0 ≤ -v) hp
            rw [Int.neg_tdiv] at h4
            omega
          rw [if_pos h2, if_pos (by omega)]
        · have h3 := Int.tdiv_nonneg (by omega : 0 ≤ v) hp
          rw [if_neg h2, if_neg (by omega)]
    refine c_freezeInts (ik := .i64) (l := D) .head rfl ?_
    all_goals ((try refine zR ?_) <;> (repeat' (with_reducible first | refine And.intro ?_ ?_ | intro _)))
    refine l_call rfl zEvs rfl (l02MakeV_spec (sgn v) r D (by omega) hDr) zTake zFsub ?_
    rintro _ L' F' ⟨w', rfl, rfl, rfl⟩
    refine l_isList (.head _) fun hs' => ?_
    rw [hDval, made_sgn rfl hsv]
    all_goals ((try refine zR ?_) <;> (repeat' (with_reducible first | refine And.intro ?_ ?_ | intro _)))
    exact e_resT rfl zRes .nil (fsub_cons zMem fsub_nil) ⟨w', rfl, rfl, rfl⟩
end Go.Proofs.YtbllgmcpebifhaaGreatDoor.K
