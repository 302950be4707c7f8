/- The reference's whole numbers: made from any limbs; sums, differences, shifts. -/
import Derived.Test.YtbllgmcpebifhaaGreatDoorZHa
import Derived.Test.YtbllgmcpebifhaaGreatDoorZMa

section
namespace Go.Proofs.YtbllgmcpebifhaaGreatDoor.K
open Go Go.RowKit Go.Lib
set_option linter.all false
set_option maxRecDepth 4000
set_option maxHeartbeats 1000000

/-- A whole number is handed back. -/
def PWh (v : Int) (r : Value) (L' : List Own) (F' : List Fact) : Prop := ∃ u, r = vWhole (sgn v) u ∧ L' = [] ∧ F' = [fList 1 (rInt .i64) u (limbs v.natAbs)]

theorem limbs_take (l : List Int) (h : InR 16777216 l) (n : Nat) (hn : n ≤ l.length) (h0 : ∀ k, n ≤ k → (hk : k < l.length) → l[k] = 0) (hT : n = 0 ∨ ∃ hk : n - 1 < l.length, l[n - 1] ≠ 0) : l.take n = limbs (vl 16777216 l) := by
  have hv : vl 16777216 (l.take n) = vl 16777216 l := by
    conv => rhs; rw [← List.take_append_drop n l]
    rw [vl_append]
    have : vl 16777216 (l.drop n) = 0 := by
      have hz : ∀ x ∈ l.drop n, x = 0 := by
        intro x hx
        obtain ⟨k, hk, rfl⟩ := List.getElem_of_mem hx
        rw [List.getElem_drop]
        exact h0 _ (by omega) (by rw [List.length_drop] at hk; omega)
      generalize l.drop n = m at hz
      induction m with
      | nil => rfl
      | cons x r ih =>
        have hx := hz x (.head _)
        subst hx
        simp [vl, ih (fun y hy => hz y (.tail _ hy))]
    rw [this]; simp
  rw [← hv]
  refine limbs_uniq _ (fun x hx => h x (List.mem_of_mem_take hx)) ?_
  rcases hT with rfl | ⟨hk, hne⟩
  · left; simp
  · by_cases hn0 : n = 0
    · subst hn0; left; simp
    · have hl : (l.take n).length = n := by rw [List.length_take]; omega
      refine .inr ⟨by omega, ?_⟩
      rw [List.getElem_take]
      have : (l.take n).length - 1 = n - 1 := by omega
      simp only [this]
      exact hne

theorem l02MakeV_spec (sg : Int) (v : Value) (l : List Int) (hl : l.length ≤ 1000) (hr : InR 16777216 l) : Spec Tryz.prog 188 [.int .i64 sg, v] [] [fList 1 (rInt .i64) v l] (fun r L' F' => ∃ v', r = vWhole (if vl 16777216 l = 0 then 0 else sg) v' ∧ L' = [] ∧ F' = [fList 1 (rInt .i64) v' (limbs (vl 16777216 l))]) := by
  refine enter Tryz.func188 Tryz.ntmps188 rfl (by kernel_rfl) zCon rfl fun G => ?_
  refine c_isList zMem fun hsl => ?_
  all_goals ((try refine zR ?_) <;> (repeat' (with_reducible first | refine And.intro ?_ ?_ | intro _)))
  rename_i b _
  refine c_while (ι := { n : Nat // n ≤ l.length ∧ ∀ k, n ≤ k → (hk : k < l.length) → l[k] = 0 }) (κ := { n : Nat // n ≤ l.length ∧ l.take n = limbs (vl 16777216 l) }) (fun n => [(5, .int .i64 (n.1 : Int)), (1, v), (0, .int .i64 sg), (4, .pointer (some ⟨b, 0, none⟩))]) (fun _ => [.box b [.int .i64 0, .slice none 0 0] 46]) (fun _ => [fList 1 (rInt .i64) v l]) (fun n => n.1)
    (fun n => [(5, .int .i64 (n.1 : Int)), (4, .pointer (some ⟨b, 0, none⟩)), (1, v), (0, .int .i64 sg)]) (fun _ => [.box b [.int .i64 0, .slice none 0 0] 46]) (fun _ => [fList 1 (rInt .i64) v l]) ⟨l.length, Nat.le_refl _, fun k h1 h2 => by omega⟩ (fun _ _ s => s.start zSub zRfl zFsub) ?_ ?_
  · rintro ⟨n, hn, hz⟩
    dsimp only
    rcases Nat.eq_zero_or_pos n with hn0 | hn0
    · subst hn0
      have hend := limbs_take l hr 0 hn hz (.inl rfl)
      all_goals ((try refine zR ?_) <;> (repeat' (with_reducible first | refine And.intro ?_ ?_ | intro _)))
      exact e_out ⟨0, hn, hend⟩ zSub rfl (fun _ h => h)
    · obtain ⟨k, rfl⟩ : ∃ k, n = k + 1 := ⟨n - 1, by omega⟩
      have hget : l[k + 1 - 1]? = some l[k] := List.getElem?_eq_getElem (by omega)
      have hend : l[k] ≠ 0 → l.take (k + 1) = limbs (vl 16777216 l) := fun h => limbs_take l hr (k + 1) hn hz (.inr ⟨by omega, h⟩)
      have hnext : l[k] = 0 → ∀ j, k ≤ j → (hj : j < l.length) → l[j] = 0 := fun h j h1 h2 => by
        rcases Nat.lt_or_ge k j with h3 | h3
        · exact hz j h3 h2
        · have : j = k := by omega
          subst this; exact h
      revert hget hend hnext
      generalize l[k] = y
      intro hget hend hnext
      refine c_say (t := 5) (v' := .int .i64 ((k : Int) + 1)) rfl (congrArg _ (by omega)) ?_
      all_goals ((try refine zR ?_) <;> (repeat' (with_reducible first | refine And.intro ?_ ?_ | intro _)))
      all_goals (first | (exfalso; omega) | skip)
      · exact e_again ⟨k, by omega, hnext (by assumption)⟩ (by dsimp only; omega) zSub rfl (fun _ h => h)
      · exact e_out ⟨k + 1, hn, hend (by assumption)⟩ zSub rfl (fun _ h => h)
  · rintro ⟨n, hn, hend⟩
    dsimp only
    have hlv := limbs_val (vl 16777216 l)
    all_goals ((try refine zR ?_) <;> (repeat' (with_reducible first | refine And.intro ?_ ?_ | intro _)))
    · have h0 : n = 0 := by omega
      subst h0
      rw [List.take_zero] at hend
      rw [← hend] at hlv
      have hv0 : vl 16777216 l = 0 := by simpa [vl] using hlv.symm
      rw [hv0, limbs_zero]
      refine ends_nilInts .i64 ?_
      exact e_resT rfl zRes .nil (fsub_cons (.head _) fsub_nil) ⟨_, by simp only [retVal, if_true], rfl, rfl⟩
    · rename_i hn0 v2
      have hv0 : vl 16777216 l ≠ 0 := by
        intro h0
        rw [h0, limbs_zero] at hend
        have := congrArg List.length hend
        rw [List.length_take] at this
        simp at this
        rcases this with h | h
        · exact hn0 (by rw [h]; rfl)
        · rw [h] at hn; simp at hn; exact hn0 (by rw [hn]; rfl)
      rw [hend, if_neg hv0]
      have hll : (limbs (vl 16777216 l)).length ≤ 1000 := by rw [← hend, List.length_take]; omega
      refine l_call rfl zEvs rfl (l01Own_spec v2 (limbs (vl 16777216 l)) (by omega)) zTake zFsub ?_
      rintro r L' F' ⟨rfl, rfl⟩
      refine l_isRow (.own (.head _)) fun hs' _ => ?_
      all_goals ((try refine zR ?_) <;> (repeat' (with_reducible first | refine And.intro ?_ ?_ | intro _)))
      refine ends_freezeInts .head rfl ?_
      exact e_resT rfl zRes .nil (fsub_cons (.head _) fsub_nil) ⟨_, by simp only [retVal], rfl, rfl⟩
end Go.Proofs.YtbllgmcpebifhaaGreatDoor.K
end

section
/- The reference's whole numbers: of an int64; sums and differences of limbs. -/
namespace Go.Proofs.YtbllgmcpebifhaaGreatDoor.K
open Go Go.RowKit Go.Lib
set_option linter.all false
set_option maxRecDepth 4000
set_option maxHeartbeats 1000000

theorem vl_tk (B : Nat) (l : List Int) (i : Nat) : vl B (l.take (i + 1)) = vl B (l.take i) + B ^ i * (l.getD i 0).toNat := by
  rcases Nat.lt_or_ge i l.length with h | h
  · rw [List.take_succ_eq_append_getElem h, vl_append, List.length_take, Nat.min_eq_left (by omega), List.getD_eq_getElem?_getD, List.getElem?_eq_getElem h]
    simp [vl]
  · rw [List.take_of_length_le (by omega), List.take_of_length_le h, List.getD_eq_getElem?_getD, List.getElem?_eq_none h]
    simp
theorem getD_lt {l : List Int} {i : Nat} (h : i < l.length) : l.getD i 0 = l[i] := by rw [List.getD_eq_getElem?_getD, List.getElem?_eq_getElem h]; rfl
theorem getD_ge {l : List Int} {i : Nat} (h : ¬ i < l.length) : l.getD i 0 = 0 := by rw [List.getD_eq_getElem?_getD, List.getElem?_eq_none (by omega)]; rfl
theorem InR.getD {b : Nat} {l : List Int} (h : InR b l) (hb : 0 < b) (i : Nat) : 0 ≤ l.getD i 0 ∧ l.getD i 0 < (b : Int) := by
  by_cases hi : i < l.length
  · rw [getD_lt hi]; exact h _ (List.getElem_mem hi)
  · rw [getD_ge hi]; omega
theorem InR.snoc' {b : Nat} {l : List Int} {x : Int} (h : InR b l) (hx : 0 ≤ x ∧ x < (b : Int)) : InR b (l ++ [x]) := fun y hy => by
  rcases List.mem_append.1 hy with h1 | h1
  · exact h y h1
  · rw [List.mem_singleton.1 h1]; exact hx
/-- One digit of a sum. -/
theorem plus_step (o : List Int) (i : Nat) (c x y : Int) (A B' : Nat) (ho : o.length = i) (hc : 0 ≤ c) (hx : 0 ≤ x) (hy : 0 ≤ y) (h : vl 16777216 o + 16777216 ^ i * c.toNat = A + B') :
    vl 16777216 (o ++ [(c + x + y) % 16777216]) + 16777216 ^ (i + 1) * ((c + x + y) / 16777216).toNat = (A + 16777216 ^ i * x.toNat) + (B' + 16777216 ^ i * y.toNat) := by
  rw [vl_append, ho, Nat.pow_succ, Nat.mul_assoc]
  simp only [vl, Nat.mul_zero, Nat.add_zero]
  have h1 : ((c + x + y) % 16777216).toNat + 16777216 * ((c + x + y) / 16777216).toNat = c.toNat + x.toNat + y.toNat := by omega
  have h2 : 16777216 ^ i * ((c + x + y) % 16777216).toNat + 16777216 ^ i * (16777216 * ((c + x + y) / 16777216).toNat) = 16777216 ^ i * c.toNat + 16777216 ^ i * x.toNat + 16777216 ^ i * y.toNat := by
    rw [← Nat.mul_add, h1, Nat.mul_add, Nat.mul_add]
  omega

theorem l02Plus_spec (va vb : Value) (a b : List Int) (ha : InR 16777216 a) (hb : InR 16777216 b) (M : Nat) (hla : a.length ≤ M) (hlb : b.length ≤ M) (hM : M ≤ 990) : Spec Tryz.prog 226 [va, vb] [] [fList 1 (rInt .i64) va a, fList 1 (rInt .i64) vb b]
    (fun r L' F' => ∃ o, InR 16777216 o ∧ vl 16777216 o = vl 16777216 a + vl 16777216 b ∧ o.length ≤ M + 1 ∧ L' = [] ∧ F' = [fList 1 (rInt .i64) r o]) := by
  refine enter Tryz.func226 Tryz.ntmps226 rfl (by kernel_rfl) zCon rfl fun G => ?_
  all_goals ((try refine zS ?_) <;> (repeat' (with_reducible first | refine And.intro ?_ ?_ | intro _)))
  rename_i r0
  refine c_while (ι := { p : Nat × Value × List Int × Int // InR 16777216 p.2.2.1 ∧ p.2.2.1.length = p.1 ∧ (0 ≤ p.2.2.2 ∧ p.2.2.2 ≤ 1) ∧ p.1 ≤ M + 1 ∧ (p.1 = M + 1 → p.2.2.2 = 0) ∧ vl 16777216 p.2.2.1 + 16777216 ^ p.1 * p.2.2.2.toNat = vl 16777216 (a.take p.1) + vl 16777216 (b.take p.1) })
    (κ := { p : Value × List Int // InR 16777216 p.2 ∧ vl 16777216 p.2 = vl 16777216 a + vl 16777216 b ∧ p.2.length ≤ M + 1 })
    (fun p => [(7, .int .i64 (p.1.1 : Int)), (6, .int .i64 p.1.2.2.2), (5, p.1.2.1), (0, va), (1, vb)]) (fun p => [.row p.1.2.1 2 1 p.1.2.2.1.length (p.1.2.2.1.map (Value.int .i64))]) (fun _ => [fList 1 (rInt .i64) va a, fList 1 (rInt .i64) vb b]) (fun p => M + 1 - p.1.1)
    (fun p => [(5, p.1.1)]) (fun p => [.row p.1.1 2 1 p.1.2.length (p.1.2.map (Value.int .i64))]) (fun _ => []) ⟨(0, r0, [], 0), (fun x hx => by cases hx), rfl, ⟨Int.le_refl 0, (by decide : (0 : Int) ≤ 1)⟩, Nat.zero_le _, fun _ => rfl, by simp [vl]⟩ (fun a w s => s.start zSub rfl zFsub) ?_ ?_
  · rintro ⟨⟨i, r, o, c⟩, ho, hol, ⟨hc0, hc1⟩, hiM, hiM2, hinv⟩
    dsimp only at ho hol hc0 hc1 hiM hiM2 hinv ⊢
    have hxa := ha.getD (by omega) i
    have hxb := hb.getD (by omega) i
    have hstep := plus_step o i c (a.getD i 0) (b.getD i 0) _ _ hol hc0 hxa.1 hxb.1 hinv
    rw [← vl_tk, ← vl_tk] at hstep
    have hend : ¬ i < a.length → ¬ i < b.length → c = 0 → vl 16777216 o = vl 16777216 a + vl 16777216 b := fun h1 h2 h3 => by
      subst h3
      rw [List.take_of_length_le (by omega), List.take_of_length_le (by omega)] at hinv
      simpa using hinv
    clear hinv
    by_cases hia : i < a.length
    · have hga : a[i]? = some (a.getD i 0) := by rw [getD_lt hia]; exact List.getElem?_eq_getElem hia
      by_cases hib : i < b.length
      · have hgb : b[i]? = some (b.getD i 0) := by rw [getD_lt hib]; exact List.getElem?_eq_getElem hib
        revert hxa hxb hstep hga hgb
        generalize a.getD i 0 = x
        generalize b.getD i 0 = y
        rintro ⟨hx1, hx2⟩ ⟨hy1, hy2⟩ hstep hga hgb
        all_goals ((try refine zR ?_) <;> (repeat' (with_reducible first | refine And.intro ?_ ?_ | intro _)))
        all_goals (first | (exfalso; omega) | skip)
        · rename_i v0 v'
          refine e_again ⟨(i + 1, v', o ++ [(c + x + y) % 16777216], (c + x + y) / 16777216), ho.snoc' (by omega), by simp [hol], ⟨by dsimp only; omega, by dsimp only; omega⟩, by dsimp only; omega, fun h => by dsimp only at h ⊢; omega, hstep⟩ (by dsimp only; omega) zSub (by dsimp only; rw [show (o ++ [(c + x + y) % 16777216]).length = o.length + 1 from List.length_append]) (fun _ h => h)
      · rw [getD_ge hib] at hstep
        revert hxa hstep hga
        generalize a.getD i 0 = x
        rintro ⟨hx1, hx2⟩ hstep hga
        rw [Int.add_zero] at hstep
        all_goals ((try refine zR ?_) <;> (repeat' (with_reducible first | refine And.intro ?_ ?_ | intro _)))
        all_goals (first | (exfalso; omega) | skip)
        · rename_i v0 v'
          refine e_again ⟨(i + 1, v', o ++ [(c + x) % 16777216], (c + x) / 16777216), ho.snoc' (by omega), by simp [hol], ⟨by dsimp only; omega, by dsimp only; omega⟩, by dsimp only; omega, fun h => by dsimp only at h ⊢; omega, hstep⟩ (by dsimp only; omega) zSub (by dsimp only; rw [show (o ++ [(c + x) % 16777216]).length = o.length + 1 from List.length_append]) (fun _ h => h)
    · rw [getD_ge hia, Int.add_zero] at hstep
      by_cases hib : i < b.length
      · have hgb : b[i]? = some (b.getD i 0) := by rw [getD_lt hib]; exact List.getElem?_eq_getElem hib
        revert hxb hstep hgb
        generalize b.getD i 0 = y
        rintro ⟨hy1, hy2⟩ hstep hgb
        all_goals ((try refine zR ?_) <;> (repeat' (with_reducible first | refine And.intro ?_ ?_ | intro _)))
        all_goals (first | (exfalso; omega) | skip)
        · rename_i v0 v'
          refine e_again ⟨(i + 1, v', o ++ [(c + y) % 16777216], (c + y) / 16777216), ho.snoc' (by omega), by simp [hol], ⟨by dsimp only; omega, by dsimp only; omega⟩, by dsimp only; omega, fun h => by dsimp only at h ⊢; omega, hstep⟩ (by dsimp only; omega) zSub (by dsimp only; rw [show (o ++ [(c + y) % 16777216]).length = o.length + 1 from List.length_append]) (fun _ h => h)
      · rw [getD_ge hib, Int.add_zero] at hstep
        all_goals ((try refine zR ?_) <;> (repeat' (with_reducible first | refine And.intro ?_ ?_ | intro _)))
        all_goals (first | (exfalso; omega) | skip)
        · rename_i v0 v'
          refine e_again ⟨(i + 1, v', o ++ [(c) % 16777216], (c) / 16777216), ho.snoc' (by omega), by simp [hol], ⟨by dsimp only; omega, by dsimp only; omega⟩, by dsimp only; omega, fun h => by dsimp only at h ⊢; omega, hstep⟩ (by dsimp only; omega) zSub (by dsimp only; rw [show (o ++ [(c) % 16777216]).length = o.length + 1 from List.length_append]) (fun _ h => h)
        · exact e_out ⟨(r, o), ho, hend hia hib (by omega), by dsimp only; omega⟩ zSub rfl (fun _ h => by cases h)
  · rintro ⟨⟨r, o⟩, ho, hv, hl⟩
    dsimp only
    all_goals ((try refine zR ?_) <;> (repeat' (with_reducible first | refine And.intro ?_ ?_ | intro _)))
    refine ends_freezeInts (ik := .i64) (l := o) .head rfl ?_
    exact e_resT rfl zRes .nil (fsub_cons (.head _) fsub_nil) ⟨o, ho, hv, hl, rfl, rfl⟩

theorem limbs_lt_of_len {x y : Nat} (h : (limbs x).length < (limbs y).length) : x < y := by
  have h1 := vl_lt _ _ (limbs_range x)
  rw [limbs_val] at h1
  rcases Nat.lt_or_ge y (16777216 ^ (limbs x).length) with h2 | h2
  · have := limbs_len_le _ _ h2; omega
  · omega
theorem l02CompareLimbs_spec (va vb : Value) (x y : Nat) : Spec Tryz.prog 227 [va, vb] [] [fList 1 (rInt .i64) va (limbs x), fList 1 (rInt .i64) vb (limbs y)]
    (Gives (.int .i64 (if x < y then -1 else if x = y then 0 else 1))) := by
  refine enter Tryz.func227 Tryz.ntmps227 rfl (by kernel_rfl) zCon rfl fun G => ?_
  have ha := limbs_range x
  have hb := limbs_range y
  have hva := limbs_val x
  have hvb := limbs_val y
  have hl1 : (limbs x).length < (limbs y).length → x < y := limbs_lt_of_len
  have hl2 : (limbs y).length < (limbs x).length → y < x := limbs_lt_of_len
  revert ha hb hva hvb hl1 hl2
  generalize limbs x = a
  generalize limbs y = b
  intro ha hb hva hvb hl1 hl2
  all_goals ((try refine zS ?_) <;> (repeat' (with_reducible first | refine And.intro ?_ ?_ | intro _)))
  refine c_dec rfl (fun hne => ?_) (fun heq => ?_)
  · all_goals ((try refine zR ?_) <;> (repeat' (with_reducible first | refine And.intro ?_ ?_ | intro _)))
    · have h1 : (a.length : Int) < b.length := by assumption
      have h2 := hl1 (by omega)
      refine e_gives rfl zRes ?_
      simp only [retVal, h2, if_true]
    · have h1 : ¬ (a.length : Int) < b.length := by assumption
      have h2 := hl2 (by omega)
      have h3 : ¬ x < y := by omega
      have h4 : ¬ x = y := by omega
      refine e_gives rfl zRes ?_
      simp only [retVal, h3, h4, if_false]
  have hlen : a.length = b.length := by omega
  all_goals ((try refine zR ?_) <;> (repeat' (with_reducible first | refine And.intro ?_ ?_ | intro _)))
  refine c_while (ι := { i : Nat // i ≤ a.length ∧ a.drop i = b.drop i }) (κ := { _u : Unit // x = y }) (fun i => [(5, .int .i64 ((i.1 : Int) - 1)), (1, vb), (0, va)]) (fun _ => []) (fun _ => [fList 1 (rInt .i64) va a, fList 1 (rInt .i64) vb b]) (fun i => i.1)
    (fun _ => []) (fun _ => []) (fun _ => []) ⟨a.length, Nat.le_refl _, by rw [List.drop_length, hlen, List.drop_length]⟩ (fun _ _ s => s.start zSub zRfl zFsub) ?_ ?_
  · rintro ⟨i, hi, hd⟩
    dsimp only
    rcases Nat.eq_zero_or_pos i with hi0 | hi0
    · subst hi0
      have hab : a = b := by simpa using hd
      have hxy : x = y := by rw [← hva, ← hvb, hab]
      have h3 : ¬ x < y := by omega
      all_goals (((try refine zD ?_) <;> (repeat' (with_reducible first | refine And.intro ?_ ?_ | intro _))) <;> (repeat' ((first | refine c_draw ([8], []) [] [0, 1, 2, 3, 4, 5, 6, 7, 8] (by kernel_rfl) (by kernel_rfl) ?_ | refine c_draw ([8], []) [] [0, 1, 2, 3, 4, 5, 6, 7, 8] (by kernel_rfl) (by kernel_rfl) ?_) <;> ((try refine zD ?_) <;> (repeat' (with_reducible first | refine And.intro ?_ ?_ | intro _))))))
      exact e_out ⟨(), hxy⟩ zSub rfl zFsub
    · obtain ⟨k, rfl⟩ : ∃ k, i = k + 1 := ⟨i - 1, by omega⟩
      have hk : k < a.length := by omega
      have hkb : k < b.length := by omega
      refine c_say (t := 5) (v' := .int .i64 (k : Int)) rfl (congrArg _ (by omega)) ?_
      all_goals (((try refine zD ?_) <;> (repeat' (with_reducible first | refine And.intro ?_ ?_ | intro _))) <;> (repeat' ((first | refine c_draw ([8], []) [] [0, 1, 2, 3, 4, 5, 6, 7, 8] (by kernel_rfl) (by kernel_rfl) ?_ | refine c_draw ([8], []) [] [0, 1, 2, 3, 4, 5, 6, 7, 8] (by kernel_rfl) (by kernel_rfl) ?_) <;> ((try refine zD ?_) <;> (repeat' (with_reducible first | refine And.intro ?_ ?_ | intro _))))))
      · have hlt : a[k] < b[k] := by assumption
        have h2 := cmp_at _ a b k ha hb hk hkb hd hlt
        rw [hva, hvb] at h2
        refine e_gives rfl zRes ?_
        simp only [retVal, h2, if_true]
      · have hne : a[k] ≠ b[k] := by assumption
        have hnl : ¬ a[k] < b[k] := by assumption
        have h2 := cmp_at _ b a k hb ha hkb hk hd.symm (by omega)
        rw [hva, hvb] at h2
        have h3 : ¬ x < y := by omega
        have h4 : ¬ x = y := by omega
        refine e_gives rfl zRes ?_
        simp only [retVal, h3, h4, if_false]
      · have he : ¬ a[k] ≠ b[k] := by assumption
        refine e_again ⟨k, by omega, ?_⟩ (by dsimp only; omega) zSub rfl (fun _ h => h)
        rw [List.drop_eq_getElem_cons hk, List.drop_eq_getElem_cons hkb, hd, Decidable.of_not_not he]
  · rintro ⟨_, hxy⟩
    all_goals ((try refine zR ?_) <;> (repeat' (with_reducible first | refine And.intro ?_ ?_ | intro _)))
    have h3 : ¬ x < y := by omega
    refine e_gives rfl zRes ?_
    rw [if_neg h3, if_pos hxy]
    rfl
end Go.Proofs.YtbllgmcpebifhaaGreatDoor.K
end
