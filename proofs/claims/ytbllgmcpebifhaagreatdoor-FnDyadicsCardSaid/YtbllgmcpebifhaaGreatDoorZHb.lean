/- Division by a small number; bytes reversed; the decimal text of a large number. -/
import Derived.Test.YtbllgmcpebifhaaGreatDoorZHa

section
namespace Go.Proofs.YtbllgmcpebifhaaGreatDoor.K
open Go Go.RowKit Go.Lib
set_option linter.all false
set_option maxRecDepth 4000
set_option maxHeartbeats 1000000

theorem divideDigits_spec (va vb : Value) (a : List Int) (x : Nat) (ha : Dig a x) (hl : a.length ≤ 1000) : Spec Tryz.prog 248 [va, vb] [] [fList 1 (rInt .u32) va a, fList 1 (rInt .u32) vb [1000000000]]
    (fun r L' F' => ∃ vq vr q s, r = .tuple #[vq, vr] ∧ InR 4294967296 q ∧ InR 4294967296 s ∧ vl 4294967296 q = x / 1000000000 ∧ vl 4294967296 s = x % 1000000000 ∧ L' = [] ∧ F' = [fList 1 (rInt .u32) vr s, fList 1 (rInt .u32) vq q]) := by
  refine enter Tryz.func248 Tryz.ntmps248 rfl (by kernel_rfl) zCon rfl fun G => ?_
  have hb : Dig [1000000000] 1000000000 := ⟨fun y hy => by rw [List.mem_singleton.1 hy]; omega, .inr ⟨by simp, by simp⟩, by simp [vl]⟩
  have hcmp := cmpDigits_spec va vb a [1000000000] x 1000000000 ha hb
  all_goals (((try refine zS ?_) <;> (repeat' (with_reducible first | refine And.intro ?_ ?_ | intro _))) <;> (repeat' ((first | ((with_reducible apply l_callP); exact rfl; exact zEvs; exact rfl; (with_reducible apply hcmp); (case hF => exact zFsub); (try any_goals (refine propId ?_; omega)))) <;> ((try refine zS ?_) <;> (repeat' (with_reducible first | refine And.intro ?_ ?_ | intro _))))))
  by_cases hx : x < 1000000000
  · rw [if_pos hx]
    all_goals ((try refine zR ?_) <;> (repeat' (with_reducible first | refine And.intro ?_ ?_ | intro _)))
    all_goals (first | (exfalso; omega) | skip)
    refine ends_nilInts .u32 ?_
    exact e_resT rfl zRes .nil (fsub_cons (.tail _ (.head _)) (fsub_cons (.head _) fsub_nil)) ⟨_, _, [], a, rfl, (fun y hy => by cases hy), ha.1, by simp [vl, Nat.div_eq_of_lt hx], by rw [ha.2.2, Nat.mod_eq_of_lt hx], rfl, rfl⟩
  · have hc : decide ((if x < 1000000000 then (-1 : Int) else if x = 1000000000 then 0 else 1) < 0) = false := by
      rw [if_neg hx]; split <;> rfl
    rw [hc]
    all_goals ((try refine zS ?_) <;> (repeat' (with_reducible first | refine And.intro ?_ ?_ | intro _)))
    rename_i r _
    have hget0 : ([1000000000] : List Int)[0]? = some 1000000000 := rfl
    refine c_while (ι := { i : Nat // i ≤ a.length }) (κ := Unit)
      (fun i => [(8, .int .i64 ((i.1 : Int) - 1)), (7, .int .u64 (divl 4294967296 1000000000 (a.drop i.1)).2), (6, r), (1, vb), (0, va)])
      (fun i => [.row r 220 1 a.length ((List.replicate i.1 0 ++ (divl 4294967296 1000000000 (a.drop i.1)).1).map (Value.int .u32))]) (fun _ => [fList 1 (rInt .u32) va a, fList 1 (rInt .u32) vb [1000000000]]) (fun i => i.1)
      (fun _ => [(7, .int .u64 (divl 4294967296 1000000000 a).2), (6, r)]) (fun _ => [.row r 220 1 a.length ((divl 4294967296 1000000000 a).1.map (Value.int .u32))]) (fun _ => []) ⟨a.length, Nat.le_refl _⟩ (fun a w s => s.start zSub (by simp [divl]) zFsub) ?_ ?_
    · rintro ⟨i, hi⟩
      dsimp only
      rcases Nat.eq_zero_or_pos i with hi0 | hi0
      · subst hi0
        all_goals ((try refine zR ?_) <;> (repeat' (with_reducible first | refine And.intro ?_ ?_ | intro _)))
        exact e_out () zSub (by simp) zFsub
      · obtain ⟨k, rfl⟩ : ∃ k, i = k + 1 := ⟨i - 1, by omega⟩
        have hk : k < a.length := by omega
        have hy := ha.1 _ (List.getElem_mem hk)
        have hrest := divl_rest (b := 4294967296) (D := 1000000000) (by omega) (a.drop (k + 1))
        have hs : (divl 4294967296 1000000000 (a.drop k)).2 = ((divl 4294967296 1000000000 (a.drop (k + 1))).2 * 4294967296 + a[k]) % 1000000000 := by rw [List.drop_eq_getElem_cons hk]; rfl
        have ho : bits .or .u64 ((divl 4294967296 1000000000 (a.drop (k + 1))).2 * 4294967296) a[k] = (divl 4294967296 1000000000 (a.drop (k + 1))).2 * 4294967296 + a[k] := or_apart64 32 (by omega) (by omega) (by omega) (by omega)
        have hlen : (List.replicate (k + 1) 0 ++ (divl 4294967296 1000000000 (a.drop (k + 1))).1).length = a.length := by rw [List.length_append, divl_len]; simp; omega
        refine c_say (t := 8) (v' := .int .i64 (k : Int)) rfl (congrArg _ (by omega)) ?_
        all_goals ((try refine zR ?_) <;> (repeat' (with_reducible first | refine And.intro ?_ ?_ | intro _)))
        refine e_again ⟨k, by omega⟩ (by dsimp only; omega) zSub ?_ (fun _ h => h)
        dsimp only
        rw [List.drop_eq_getElem_cons hk, divl, List.replicate_succ', List.append_assoc]
        have := row_set (List.replicate k 0) 0 (((divl 4294967296 1000000000 (a.drop (k + 1))).2 * 4294967296 + a[k]) / 1000000000) (divl 4294967296 1000000000 (a.drop (k + 1))).1
        rw [List.length_replicate] at this
        simp only [List.singleton_append]
        rw [this]
    · intro _
      have hq := divl_range (b := 4294967296) (D := 1000000000) (by omega) a ha.1
      have hqv := divl_val (b := 4294967296) (D := 1000000000) (by omega) a ha.1
      have hrest := divl_rest (b := 4294967296) (D := 1000000000) (by omega) a
      rw [ha.2.2] at hqv
      revert hq hqv hrest
      show InR 4294967296 (divl 4294967296 1000000000 a).1 → (x : Int) = 1000000000 * (vl 4294967296 (divl 4294967296 1000000000 a).1 : Int) + (divl 4294967296 1000000000 a).2 → _
      generalize (divl 4294967296 1000000000 a).1 = q
      generalize (divl 4294967296 1000000000 a).2 = rst
      intro hq hqv hrest
      all_goals ((try refine zR ?_) <;> (repeat' (with_reducible first | refine And.intro ?_ ?_ | intro _)))
      refine ends_freezeInts (ik := .u32) (l := [rst]) .head rfl ?_
      refine ends_freezeInts (ik := .u32) (l := q) .head rfl ?_
      refine e_resT rfl zRes .nil (fsub_cons (.tail _ (.head _)) (fsub_cons (.head _) fsub_nil)) ⟨_, _, q, [rst], rfl, hq, (fun y hy => by rw [List.mem_singleton.1 hy]; omega), by omega, by simp only [vl]; omega, rfl, rfl⟩
theorem Reverse_spec (v : Value) (zs : List Int) (hl : zs.length ≤ 1000000) : Spec Tryz.prog 250 [v] [.row v 5 1 zs.length (zs.map (Value.int .u8))] []
    (fun r L' F' => L' = [.row v 5 1 zs.length (zs.reverse.map (Value.int .u8))] ∧ F' = []) := by
  refine enter Tryz.func250 Tryz.ntmps250 rfl (by kernel_rfl) zCon rfl fun G => ?_
  all_goals ((try refine zR ?_) <;> (repeat' (with_reducible first | refine And.intro ?_ ?_ | intro _)))
  refine c_while (ι := { p : Nat × List Int // p.2.length = zs.length ∧ p.1 ≤ zs.length ∧ ∀ k, k < zs.length → p.2[k]? = if k < p.1 ∨ zs.length - p.1 ≤ k then zs[zs.length - 1 - k]? else zs[k]? }) (κ := Unit)
    (fun p => [(3, .int .i64 ((zs.length : Int) - 1 - p.1.1)), (2, .int .i64 (p.1.1 : Int)), (0, v)]) (fun p => [.row v 5 1 zs.length (p.1.2.map (Value.int .u8))]) (fun _ => []) (fun p => zs.length - p.1.1)
    (fun _ => []) (fun _ => [.row v 5 1 zs.length (zs.reverse.map (Value.int .u8))]) (fun _ => []) ⟨(0, zs), rfl, Nat.zero_le _, fun k hk => by rw [if_neg (by omega)]⟩ (fun _ _ s => s.start zSub zRfl zFsub) ?_ ?_
  · rintro ⟨⟨i, c⟩, hlen, hi, hc⟩
    dsimp only at hlen hi hc ⊢
    by_cases hij : i + 1 + i < zs.length
    · obtain ⟨j, hj⟩ : ∃ j, j = zs.length - 1 - i := ⟨_, rfl⟩
      refine c_say (t := 3) (v' := .int .i64 (j : Int)) rfl (congrArg _ (by omega)) ?_
      have hgi : c[i]? = some zs[i] := by rw [hc i (by omega), if_neg (by omega), List.getElem?_eq_getElem (by omega)]
      have hgj : c[j]? = some zs[j] := by rw [hc j (by omega), if_neg (by omega), List.getElem?_eq_getElem (by omega)]
      all_goals ((try refine zS ?_) <;> (repeat' (with_reducible first | refine And.intro ?_ ?_ | intro _)))
      refine c_dec rfl (fun _ => ?_) (fun h => absurd h (by omega))
      all_goals ((try refine zS ?_) <;> (repeat' (with_reducible first | refine And.intro ?_ ?_ | intro _)))
      refine c_draw ([], [13, 14, 15]) [.row v 5 1 zs.length (c.map (Value.int .u8))] [0, 1, 2, 3, 4, 5, 6, 7, 8, 9, 10, 11, 12, 13, 14, 15] (by kernel_rfl) (by kernel_rfl) ?_
      all_goals ((try refine zD ?_) <;> (repeat' (with_reducible first | refine And.intro ?_ ?_ | intro _)))
      refine e_again ⟨(i + 1, (c.set i zs[j]).set j zs[i]), by simp [hlen], by omega, fun k hk => ?_⟩ (by dsimp only; omega) zSub rfl (fun _ h => h)
      dsimp only
      rw [List.getElem?_set, List.getElem?_set]
      by_cases hkj : j = k
      · subst hkj
        rw [if_pos rfl, if_pos (by simp [hlen]; omega), if_pos (by omega), ← List.getElem?_eq_getElem]
        congr 1; omega
      · rw [if_neg hkj]
        by_cases hki : i = k
        · subst hki
          rw [if_pos rfl, if_pos (by omega), if_pos (by omega), ← List.getElem?_eq_getElem]
          congr 1
        · rw [if_neg hki, hc k hk]
          by_cases hcond : k < i ∨ zs.length - i ≤ k
          · rw [if_pos hcond, if_pos (by omega)]
          · rw [if_neg hcond, if_neg (by omega)]
    · all_goals ((try refine zR ?_) <;> (repeat' (with_reducible first | refine And.intro ?_ ?_ | intro _)))
      all_goals (first | (exfalso; omega) | skip)
      have hrev : c = zs.reverse := by
        apply List.ext_getElem?
        intro k
        by_cases hk : k < zs.length
        · rw [hc k hk, List.getElem?_reverse hk]
          split
          · rfl
          · congr 1; omega
        · rw [List.getElem?_eq_none (by omega), List.getElem?_eq_none (by simp; omega)]
      rw [hrev]
      exact e_out () zSub rfl (fun _ h => h)
  · intro _
    all_goals ((try refine zR ?_) <;> (repeat' (with_reducible first | refine And.intro ?_ ?_ | intro _)))
    exact e_resT rfl zRes (.cons .head .nil) fsub_nil ⟨rfl, rfl⟩
def u8s (zs : List Int) : List UInt8 := zs.map fun z => UInt8.ofNat z.toNat
/-- The last k digits, the lowest one first. -/
def lows : Nat → Nat → List Int
  | 0, _ => []
  | k + 1, n => lows k n ++ [(48 : Int) + ((n / 10 ^ k % 10 : Nat) : Int)]
theorem padd_cons : ∀ (k n : Nat), padd (k + 1) n = UInt8.ofNat (48 + n / 10 ^ k % 10) :: padd k n
  | 0, n => by simp [padd]
  | k + 1, n => by
    rw [padd, padd_cons k (n / 10), List.cons_append]
    have : n / 10 / 10 ^ k = n / 10 ^ (k + 1) := by rw [Nat.div_div_eq_div_mul, Nat.pow_succ, Nat.mul_comm]
    rw [this]; rfl
theorem lows_padd : ∀ (k n : Nat), (u8s (lows k n)).reverse = padd k n
  | 0, _ => rfl
  | k + 1, n => by
    have ih := lows_padd k n
    unfold u8s at ih ⊢
    rw [lows, List.map_append, List.reverse_append, ih, padd_cons]
    have e : ((48 : Int) + ((n / 10 ^ k % 10 : Nat) : Int)).toNat = 48 + n / 10 ^ k % 10 := by omega
    simp only [List.map_cons, List.map_nil, List.reverse_cons, List.reverse_nil, List.nil_append, List.singleton_append, e]
theorem lows_length : ∀ (k n : Nat), (lows k n).length = k
  | 0, _ => rfl
  | k + 1, n => by simp [lows, lows_length k n]
theorem lows_range : ∀ (k n : Nat), ∀ z ∈ lows k n, 0 ≤ z ∧ z < 256
  | 0, _ => fun z hz => by cases hz
  | k + 1, n => fun z hz => by
    rw [lows] at hz
    rcases List.mem_append.1 hz with h | h
    · exact lows_range k n z h
    · rw [List.mem_singleton.1 h]; omega
theorem dec0_min : ∀ (i N : Nat), N / 10 ^ i = 0 → (∀ j, j < i → 0 < N / 10 ^ j) → dec0 N = padd i N
  | 0, N, h, _ => by
    have h0 : N = 0 := by simpa using h
    subst h0; rfl
  | i + 1, N, h, hj => by
    have h0 : 0 < N := by simpa using hj 0 (by omega)
    have e : ∀ j, N / 10 / 10 ^ j = N / 10 ^ (j + 1) := fun j => by rw [Nat.div_div_eq_div_mul, Nat.pow_succ, Nat.mul_comm]
    rw [dec0_step h0, dec0_min i (N / 10) (by rw [e]; exact h) (fun j hji => by rw [e]; exact hj (j + 1) (by omega)), padd]

theorem u8s_append (a b : List Int) : u8s (a ++ b) = u8s a ++ u8s b := by simp [u8s]
def bText (neg : Bool) (x : Nat) : List UInt8 := (if neg then [45] else []) ++ decDigits x

theorem String_spec (b : Nat) (neg : Bool) (mag : Value) (d : List Int) (x : Nat) (hd : Dig d x) (hl : d.length ≤ 1000) (hx : (dec0 x).length ≤ 5000) (hn : neg = true → 0 < x) : Spec Tryz.prog 193 [ptr b] [oBig b neg mag] [fList 1 (rInt .u32) mag d]
    (Gives (.string ⟨(bText neg x).toArray⟩)) := by
  refine enter Tryz.func193 Tryz.ntmps193 rfl (by kernel_rfl) zCon rfl fun G => ?_
  refine c_isList zMem fun hsl => ?_
  all_goals ((try refine zR ?_) <;> (repeat' (with_reducible first | refine And.intro ?_ ?_ | intro _)))
  rename_i r3 r11
  refine l_appendInts rfl rfl rfl rfl rfl zMem (fun _ => .head) (by simp [maxLen]; omega) (by omega) fun r4 => ?_
  refine l_freezeInts (ik := .u32) (l := d) .head (by simp) ?_
  all_goals ((try refine zR ?_) <;> (repeat' (with_reducible first | refine And.intro ?_ ?_ | intro _)))
  rename_i r5
  refine c_freezeInts (ik := .u32) (l := [1000000000]) .head rfl ?_
  refine c_while (ι := { p : (Value × List Int × Nat) × Value × List Int // Dig p.1.2.1 p.1.2.2 ∧ (∀ z ∈ p.2.2, 0 ≤ z ∧ z < 256) ∧ dec0 x = dec0 p.1.2.2 ++ (u8s p.2.2).reverse ∧ p.1.2.1.length ≤ 1000 }) (κ := { p : Value × List Int // (∀ z ∈ p.2, 0 ≤ z ∧ z < 256) ∧ dec0 x = (u8s p.2).reverse })
    (fun p => [(5, r5), (4, p.1.1.1), (3, p.1.2.1), (0, ptr b)]) (fun p => [.row p.1.2.1 5 1 p.1.2.2.length (p.1.2.2.map (Value.int .u8)), oBig b neg mag]) (fun p => [fList 1 (rInt .u32) p.1.1.1 p.1.1.2.1, fList 1 (rInt .u32) r5 [1000000000]]) (fun p => p.1.1.2.2)
    (fun p => [(3, p.1.1), (0, ptr b)]) (fun p => [.row p.1.1 5 1 p.1.2.length (p.1.2.map (Value.int .u8)), oBig b neg mag]) (fun _ => []) ⟨((r4, d, x), r3, []), hd, (fun z hz => by cases hz), by simp [u8s], hl⟩ (fun _ _ s => s.start zSub zRfl zFsub) ?_ ?_
  · rintro ⟨⟨⟨v1, c, N⟩, r, zs⟩, hc, hz, hV, hcl⟩
    dsimp only at hc hz hV hcl ⊢
    have hzl : zs.length ≤ 5000 := by
      have := congrArg List.length hV
      simp only [u8s, List.length_append, List.length_reverse, List.length_map] at this
      omega
    all_goals ((try refine zR ?_) <;> (repeat' (with_reducible first | refine And.intro ?_ ?_ | intro _)))
    · have hcp : 0 < (c.length : Int) := by assumption
      have hN := hc.pos (by omega)
      refine l_call rfl zEvs rfl (divideDigits_spec v1 r5 c N hc hcl) zTake zFsub ?_
      rintro _ L' F' ⟨vq, vr, q, s, rfl, hq, hs, hqv, hsv, rfl, rfl⟩
      all_goals ((try refine zR ?_) <;> (repeat' (with_reducible first | refine And.intro ?_ ?_ | intro _)))
      refine l_call rfl zEvs rfl (trimmed_spec vq q) zTake zFsub ?_
      rintro v4 L' F' ⟨c2, hT2, rfl, rfl⟩
      have hc2 := hT2.dig hq
      rw [hqv] at hc2
      all_goals ((try refine zR ?_) <;> (repeat' (with_reducible first | refine And.intro ?_ ?_ | intro _)))
      refine l_call rfl zEvs rfl (trimmed_spec vr s) zTake zFsub ?_
      rintro v7 L' F' ⟨s2, hT3, rfl, rfl⟩
      have hs2 := hT3.dig hs
      rw [hsv] at hs2
      have hsm := hs2.small (by omega)
      obtain ⟨M, hM⟩ : ∃ M, M = N % 1000000000 := ⟨_, rfl⟩
      rw [← hM] at hsm hs2
      all_goals ((try refine zS ?_) <;> (repeat' (with_reducible first | refine And.intro ?_ ?_ | intro _)))
      refine c_mid (κ := Unit) (fun _ => [(8, .int .u32 (M : Int)), (5, r5), (4, v4), (3, r), (0, ptr b)]) (fun _ => [.row r 5 1 zs.length (zs.map (Value.int .u8)), oBig b neg mag]) (fun _ => [fList 1 (rInt .u32) v4 c2, fList 1 (rInt .u32) r5 [1000000000]]) ?_ ?_
      · rcases hsm with ⟨rfl, h0⟩ | rfl
        · all_goals ((try refine zR ?_) <;> (repeat' (with_reducible first | refine And.intro ?_ ?_ | intro _)))
          all_goals (first | (exfalso; omega) | skip)
          exact e_out () zSub rfl zFsub
        · have hget : ([(M : Int)] : List Int)[0]? = some (M : Int) := rfl
          all_goals ((try refine zR ?_) <;> (repeat' (with_reducible first | refine And.intro ?_ ?_ | intro _)))
          all_goals (first | (exfalso; omega) | skip)
          all_goals exact e_out () zSub rfl zFsub
      intro _
      have hc2l : c2.length ≤ 1000 := by
        have h3 := vl_lt _ _ hc.1
        rw [hc.2.2] at h3
        exact Nat.le_trans (hc2.len (k := c.length) (Nat.lt_of_le_of_lt (Nat.div_le_self _ _) h3)) hcl
      all_goals ((try refine zR ?_) <;> (repeat' (with_reducible first | refine And.intro ?_ ?_ | intro _)))
      have hlast : ∀ i, (c2 = [] ∧ M / 10 ^ i = 0 ∧ (∀ j, j < i → 0 < M / 10 ^ j)) ∨ (c2 ≠ [] ∧ i = 9) → dec0 x = dec0 (N / 1000000000) ++ (u8s (zs ++ lows i M)).reverse := by
        intro i h
        rw [hV, u8s_append, List.reverse_append, lows_padd, ← List.append_assoc]
        congr 1
        rcases h with ⟨h1, h2, h3⟩ | ⟨h1, rfl⟩
        · have h0 : N / 1000000000 = 0 := by have := hc2.2.2; rw [h1] at this; simpa [vl] using this.symm
          have hMN : M = N := by omega
          rw [h0, ← hMN, dec0_min i M h2 h3]; rfl
        · have h0 := hc2.pos (List.length_pos_iff.2 h1)
          have := dec0_split 9 N (by simpa using h0)
          rw [this, ← padd_mod 9 N, hM]
      refine c_while (ι := { p : Nat × Value // p.1 ≤ 9 ∧ (c2 = [] → ∀ j, j < p.1 → 0 < M / 10 ^ j) }) (κ := { p : Value × List Int // (∀ z ∈ p.2, 0 ≤ z ∧ z < 256) ∧ dec0 x = dec0 (N / 1000000000) ++ (u8s p.2).reverse })
        (fun p => [(9, .int .i64 (p.1.1 : Int)), (8, .int .u32 ((M / 10 ^ p.1.1 : Nat) : Int)), (5, r5), (4, v4), (3, p.1.2), (0, ptr b)]) (fun p => [.row p.1.2 5 1 (zs ++ lows p.1.1 M).length ((zs ++ lows p.1.1 M).map (Value.int .u8)), oBig b neg mag]) (fun _ => [fList 1 (rInt .u32) v4 c2, fList 1 (rInt .u32) r5 [1000000000]]) (fun p => 9 - p.1.1)
        (fun p => [(5, r5), (4, v4), (3, p.1.1), (0, ptr b)]) (fun p => [.row p.1.1 5 1 p.1.2.length (p.1.2.map (Value.int .u8)), oBig b neg mag]) (fun _ => [fList 1 (rInt .u32) v4 c2, fList 1 (rInt .u32) r5 [1000000000]]) ⟨(0, r), Nat.zero_le _, fun _ j hj => absurd hj (Nat.not_lt_zero _)⟩ (fun a w s => s.start zSub (by simp [lows]) zFsub) ?_ ?_
      · rintro ⟨⟨i, r6⟩, hi9, hmin⟩
        dsimp only at hi9 hmin ⊢
        have hll := lows_length i M
        have hMi : M / 10 ^ i < 1000000000 := Nat.lt_of_le_of_lt (Nat.div_le_self _ _) (by omega)
        have hnext : M / 10 ^ (i + 1) = M / 10 ^ i / 10 := by rw [Nat.pow_succ, Nat.div_div_eq_div_mul]
        have hlen : (zs ++ lows i M).length ≤ 5009 := by rw [List.length_append, hll]; omega
        have hrng : ∀ z ∈ zs ++ lows i M, 0 ≤ z ∧ z < 256 := by
          intro z hz'
          rcases List.mem_append.1 hz' with h | h
          · exact hz z h
          · exact lows_range i M z h
        have hlows : lows (i + 1) M = lows i M ++ [(48 : Int) + ((M / 10 ^ i : Nat) : Int) % 10] := rfl
        have hz0 : ∀ nn : Nat, nn = M / 10 ^ i → ¬ 0 < (nn : Int) → M / 10 ^ i = 0 := fun nn h1 h2 => by rw [← h1]; omega
        have hz1 : ∀ nn : Nat, nn = M / 10 ^ i → 0 < (nn : Int) → 0 < M / 10 ^ i := fun nn h1 h2 => by rw [← h1]; omega
        obtain ⟨nn, hnn⟩ : ∃ nn, nn = M / 10 ^ i := ⟨_, rfl⟩
        have hz0 := hz0 nn hnn
        have hz1 := hz1 nn hnn
        have e8 : Value.int .u32 ((nn : Int) / 10) = .int .u32 ((M / 10 ^ (i + 1) : Nat) : Int) := by rw [hnext, ← hnn]; rfl
        rw [← hnn] at hMi hlows
        rw [← hnn]
        all_goals ((try refine zR ?_) <;> (repeat' (with_reducible first | refine And.intro ?_ ?_ | intro _)))
        · rename_i h9 hn0 v0 v'
          refine e_again ⟨(i + 1, v'), by dsimp only; omega, fun hc' j hj => ?_⟩ (by dsimp only; omega) zSub (by dsimp only; rw [hlows, ← List.append_assoc, show (zs ++ lows i M ++ [(48 : Int) + (nn : Int) % 10]).length = (zs ++ lows i M).length + 1 from List.length_append]) (fun _ h => h)
          rcases Nat.lt_or_ge j i with h | h
          · exact hmin hc' j h
          · have : j = i := by dsimp only at hj; omega
            rw [this]; exact hz1 hn0
        · rename_i h9 hn0 _ hl0 v0 v'
          refine e_again ⟨(i + 1, v'), by dsimp only; omega, fun hc' => ?_⟩ (by dsimp only; omega) zSub (by dsimp only; rw [hlows, ← List.append_assoc, show (zs ++ lows i M ++ [(48 : Int) + (nn : Int) % 10]).length = (zs ++ lows i M).length + 1 from List.length_append]) (fun _ h => h)
          exfalso; rw [hc'] at hl0; exact absurd hl0 (by decide)
        · rename_i h9 hn0 _ hl0
          have h2 : c2 = [] := List.eq_nil_of_length_eq_zero (by omega)
          exact e_out ⟨(r6, zs ++ lows i M), hrng, hlast i (.inl ⟨h2, hz0 hn0, hmin h2⟩)⟩ zSub rfl (fun _ h => h)
        · have hi : i = 9 := by omega
          subst hi
          refine e_out ⟨(r6, zs ++ lows 9 M), hrng, hlast 9 ?_⟩ zSub rfl (fun _ h => h)
          by_cases h2 : c2 = []
          · exact .inl ⟨h2, Nat.div_eq_of_lt (by omega), hmin h2⟩
          · exact .inr ⟨h2, rfl⟩
      · rintro ⟨⟨r6, zs6⟩, hz6, hV6⟩
        dsimp only at hz6 hV6 ⊢
        all_goals ((try refine zR ?_) <;> (repeat' (with_reducible first | refine And.intro ?_ ?_ | intro _)))
        exact e_again ⟨((v4, c2, N / 1000000000), r6, zs6), hc2, hz6, hV6, hc2l⟩ (by dsimp only; omega) zSub rfl (fun _ h => h)
    · have hc0 : c = [] := List.eq_nil_of_length_eq_zero (by omega)
      subst hc0
      have hN : N = 0 := by have := hc.2.2; simpa [vl] using this.symm
      subst hN
      exact e_out ⟨(r, zs), hz, by rw [hV]; simp [dec0]⟩ zSub rfl zFsub
  · rintro ⟨⟨r, zs⟩, hz, hV⟩
    dsimp only at hz hV ⊢
    have hzl : zs.length ≤ 5000 := by
      have := congrArg List.length hV
      simp only [u8s, List.length_reverse, List.length_map] at this
      omega
    have hxp0 : ¬ (zs.length : Int) = 0 → ¬ x = 0 := by
      intro hz0 h
      subst h
      have := congrArg List.length hV
      simp [u8s, dec0] at this
      omega
    all_goals ((try refine zR ?_) <;> (repeat' (with_reducible first | refine And.intro ?_ ?_ | intro _)))
    · have h0 : zs = [] := List.eq_nil_of_length_eq_zero (by omega)
      subst h0
      have hx0 : x = 0 := by
        unfold dec0 at hV
        by_cases h : x = 0
        · exact h
        · rw [if_neg h] at hV
          have := congrArg List.length hV
          rw [decDigits_length] at this
          have h2 := nDigits_pos x
          simp [u8s] at this
          omega
      subst hx0
      have hneg : neg = false := by
        cases neg with
        | false => rfl
        | true => exact absurd (hn rfl) (by omega)
      subst hneg
      refine e_gives rfl zRes ?_
      simp [retVal, bText, decDigits_one]
    all_goals (have hxp := hxp0 (by assumption))
    all_goals (unfold dec0 at hV; rw [if_neg hxp] at hV)
    · rename_i hneg _ r6
      refine l_call rfl zEvs rfl (by have := Reverse_spec r6 (zs ++ [45]) (by simp; omega); rw [List.length_append] at this; exact this) zTake zFsub ?_
      rintro _ L' F' ⟨rfl, rfl⟩
      all_goals ((try refine zR ?_) <;> (repeat' (with_reducible first | refine And.intro ?_ ?_ | intro _)))
      refine e_gives rfl zRes ?_
      simp only [retVal, bText, hneg, if_true, hV]
      simp [u8s]
    · have hneg : neg = false := by assumption
      refine l_call rfl zEvs rfl (Reverse_spec r zs (by omega)) zTake zFsub ?_
      rintro _ L' F' ⟨rfl, rfl⟩
      all_goals ((try refine zR ?_) <;> (repeat' (with_reducible first | refine And.intro ?_ ?_ | intro _)))
      refine e_gives rfl zRes ?_
      simp only [retVal, bText, hneg, hV]
      simp [u8s]
end Go.Proofs.YtbllgmcpebifhaaGreatDoor.K
end

section
/- The value of a whole number; texts of exact numbers. -/
namespace Go.Proofs.YtbllgmcpebifhaaGreatDoor.K
open Go Go.RowKit Go.Lib
set_option linter.all false
set_option maxRecDepth 4000
set_option maxHeartbeats 1000000
set_option exponentiation.threshold 8000

theorem ends_dig0 {G : Ctx} {n : Nat} {Q : Post} {m : Regs} {L : List Own} {F : List Fact} {mag : Value} {x : Nat} {e : Exit} (hF : fDig mag x ∈ F) (h : ∀ d, Dig d x → Ends G n Q e m L (fList 1 (rInt .u32) mag d :: F)) : Ends G n Q e m L F := fun a w st => by
  obtain ⟨d, h1, h2⟩ := st.facts _ hF
  exact h d h1 a w (st.fact h2)
theorem Neg_spec (z x : Nat) (v : Int) (n0 : Bool) (m0 mx : Value) (R : List Own) (hx : oInt x v mx ∈ oBig z n0 m0 :: R) (hv : v.natAbs < 4294967296 ^ 2000) :
    Spec Tryz.prog 184 [ptr z, ptr x] (oBig z n0 m0 :: R) [fDig mx v.natAbs] (PInt z (-v) R) := by
  refine enter Tryz.func184 Tryz.ntmps184 rfl (by kernel_rfl) zCon rfl fun G => ?_
  refine c_dig (mag := mx) zMem fun d hd => ?_
  refine c_isList (v := mx) zMem fun hs1 => ?_
  have hl := hd.len hv
  all_goals ((try refine zS ?_) <;> (repeat' (with_reducible first | refine And.intro ?_ ?_ | intro _)))
  refine c_draw ([12, 13], []) [oInt x v mx] [0, 1, 2, 3, 4, 5, 7, 8, 9, 10, 6, 11, 12, 13] (by kernel_rfl) (by kernel_rfl) ?_
  all_goals ((try refine zD ?_) <;> (repeat' (with_reducible first | refine And.intro ?_ ?_ | intro _)))
  refine l_appendInts rfl rfl rfl rfl rfl zMem (fun _ => .head) (by simp [maxLen]; omega) (by omega) fun mr => ?_
  refine l_nil ?_
  refine ends_freezeInts (ik := .u32) (l := d) .head (by simp) ?_
  all_goals ((try refine zD ?_) <;> (repeat' (with_reducible first | refine And.intro ?_ ?_ | intro _)))
  refine l_call rfl zEvs rfl (put_spec z n0 (decide (¬ v < 0)) m0 mr d hd.1) zTake zFsub ?_
  rintro _ L' F' ⟨mag', rfl, rfl, rfl⟩
  all_goals ((try refine zD ?_) <;> (repeat' (with_reducible first | refine And.intro ?_ ?_ | intro _)))
  have e : sv (decide (¬ v < 0)) (vl 4294967296 d) = -v := by
    rw [hd.2.2]
    unfold sv
    by_cases h : v < 0 <;> simp [h] <;> omega
  rw [e]
  exact e_res rfl zRes _ _ (fun _ h => h) (fun _ h => h.apart) (fsub_cons (.head _) fsub_nil) ⟨mag', rfl, rfl, rfl⟩

theorem vl24_lt {l : List Int} (h : InR 16777216 l) (hl : l.length ≤ 200) (i : Nat) : vl 16777216 (l.drop i) < 4294967296 ^ 150 := by
  refine Nat.lt_of_lt_of_le (vl_lt _ _ (h.drop i)) (Nat.le_trans (Nat.pow_le_pow_right (by omega) (by simp; omega : (l.drop i).length ≤ 200)) ?_)
  decide +kernel

theorem value_spec (sg : Int) (v : Value) (l : List Int) (hw : IsW sg l) : Spec Tryz.prog 171 [vWhole sg v] [] [fList 1 (rInt .i64) v l]
    (fun r L' F' => ∃ b mag, r = ptr b ∧ L' = [oInt b (sv (decide (sg < 0)) (vl 16777216 l)) mag] ∧ F' = [fDig mag (sv (decide (sg < 0)) (vl 16777216 l)).natAbs]) := by
  refine enter Tryz.func171 Tryz.ntmps171 rfl (by kernel_rfl) zCon rfl fun G => ?_
  refine c_isList zMem fun hsl => ?_
  have hR := hw.inR
  have hlen := hw.len
  all_goals ((try refine zR ?_) <;> (repeat' (with_reducible first | refine And.intro ?_ ?_ | intro _)))
  rename_i b0 b _
  refine c_nilDig ?_
  refine c_while (ι := { p : Nat × Value // p.1 ≤ l.length }) (κ := Value)
    (fun p => [(4, .int .i64 ((p.1.1 : Int) - 1)), (3, ptr b), (1, ptr b0)]) (fun p => [oInt b ((vl 16777216 (l.drop p.1.1) : Nat) : Int) p.1.2, .box b0 [.int .i64 sg, v] 46]) (fun p => [fDig p.1.2 ((vl 16777216 (l.drop p.1.1) : Nat) : Int).natAbs, fList 1 (rInt .i64) v l]) (fun p => p.1.1)
    (fun _ => [(3, ptr b), (1, ptr b0)]) (fun m => [oInt b ((vl 16777216 l : Nat) : Int) m, .box b0 [.int .i64 sg, v] 46]) (fun m => [fDig m ((vl 16777216 l : Nat) : Int).natAbs]) ⟨(l.length, .slice none 0 0), Nat.le_refl _⟩ (fun _ _ s => s.start zSub (by dsimp only; rw [List.drop_length]; rfl) (by dsimp only; rw [List.drop_length]; exact zFsub)) ?_ ?_
  · rintro ⟨⟨i, mg⟩, hi⟩
    dsimp only at hi ⊢
    rcases Nat.eq_zero_or_pos i with hi0 | hi0
    · subst hi0
      all_goals ((try refine zR ?_) <;> (repeat' (with_reducible first | refine And.intro ?_ ?_ | intro _)))
      rw [List.drop_zero]
      exact e_out mg zSub rfl zFsub
    · obtain ⟨k, rfl⟩ : ∃ k, i = k + 1 := ⟨i - 1, by omega⟩
      have hk : k < l.length := by omega
      have hx := hR _ (List.getElem_mem hk)
      have hget : l[k]? = some l[k] := List.getElem?_eq_getElem hk
      have e : 16777216 * vl 16777216 (l.drop (k + 1)) + l[k].toNat = vl 16777216 (l.drop k) := by rw [vl_drop _ _ _ hk]; omega
      have hP900 : (((vl 16777216 (l.drop (k + 1)) : Nat) : Int) * 16777216).natAbs < 4294967296 ^ 900 := by
        have h1 : (((vl 16777216 (l.drop (k + 1)) : Nat) : Int) * 16777216).natAbs ≤ vl 16777216 (l.drop k) := by omega
        exact Nat.lt_of_le_of_lt h1 (Nat.lt_of_lt_of_le (vl24_lt hR hlen k) (Nat.pow_le_pow_right (by omega) (by omega)))
      have hV1000 : ((vl 16777216 (l.drop (k + 1)) : Nat) : Int).natAbs < 4294967296 ^ 1000 := by
        rw [Int.natAbs_natCast]
        exact Nat.lt_of_lt_of_le (vl24_lt hR hlen (k + 1)) (Nat.pow_le_pow_right (by omega) (by omega))
      revert hx hget e
      generalize l[k] = y
      intro hx hget e
      refine c_say (t := 4) (v' := .int .i64 (k : Int)) rfl (congrArg _ (by omega)) ?_
      all_goals ((try refine zR ?_) <;> (repeat' (with_reducible first | refine And.intro ?_ ?_ | intro _)))
      refine l_callI rfl zEvs rfl (Lsh24_spec b b ((vl 16777216 (l.drop (k + 1)) : Nat) : Int) _ _ mg [] zMem hV1000) zTake zFsub fun mg2 => ?_
      all_goals ((try refine zR ?_) <;> (repeat' (with_reducible first | refine And.intro ?_ ?_ | intro _)))
      refine l_call rfl zEvs rfl (newBig_spec y (by omega)) zTake zFsub ?_
      rintro _ L' F' ⟨b3, mg3, rfl, rfl, rfl⟩
      have hy900 : y.natAbs < 4294967296 ^ 900 := Nat.lt_of_lt_of_le (by omega : y.natAbs < 4294967296 ^ 1) (Nat.pow_le_pow_right (by omega) (by omega))
      refine l_callI rfl zEvs rfl (Add_spec b b b3 (((vl 16777216 (l.drop (k + 1)) : Nat) : Int) * 16777216) y _ _ mg2 mg3 [oInt b3 y mg3] zMem zMem hP900 hy900) zTake zFsub fun mg4 => ?_
      have ev : ((vl 16777216 (l.drop (k + 1)) : Nat) : Int) * 16777216 + y = ((vl 16777216 (l.drop k) : Nat) : Int) := by omega
      rw [ev]
      all_goals ((try refine zR ?_) <;> (repeat' (with_reducible first | refine And.intro ?_ ?_ | intro _)))
      refine ends_take (L' := [oInt b ((vl 16777216 (l.drop k) : Nat) : Int) mg4, .box b0 [.int .i64 sg, v] 46]) zTake ?_
      exact e_again ⟨(k, mg4), by dsimp only; omega⟩ (by dsimp only; omega) zSub rfl zFsub
  · intro mg
    have hV2000 : ((vl 16777216 l : Nat) : Int).natAbs < 4294967296 ^ 2000 := by
      have := vl24_lt hR hlen 0
      rw [List.drop_zero] at this
      rw [Int.natAbs_natCast]
      exact Nat.lt_of_lt_of_le this (Nat.pow_le_pow_right (by omega) (by omega))
    all_goals ((try refine zR ?_) <;> (repeat' (with_reducible first | refine And.intro ?_ ?_ | intro _)))
    · have hneg : sg < 0 := by assumption
      refine l_callI rfl zEvs rfl (Neg_spec b b ((vl 16777216 l : Nat) : Int) _ _ mg [] zMem hV2000) zTake zFsub fun mg2 => ?_
      all_goals ((try refine zR ?_) <;> (repeat' (with_reducible first | refine And.intro ?_ ?_ | intro _)))
      have e : -((vl 16777216 l : Nat) : Int) = sv (decide (sg < 0)) (vl 16777216 l) := by unfold sv; simp [hneg]
      rw [e]
      exact e_resT rfl zRes (.cons .head .nil) (fsub_cons (.head _) fsub_nil) ⟨b, mg2, rfl, rfl, rfl⟩
    · have hneg : ¬ sg < 0 := by assumption
      have e : ((vl 16777216 l : Nat) : Int) = sv (decide (sg < 0)) (vl 16777216 l) := by unfold sv; simp [hneg]
      rw [e]
      exact e_resT rfl zRes (.cons .head .nil) (fsub_cons (.head _) fsub_nil) ⟨b, mg, rfl, rfl, rfl⟩

/-- The table of powers of ten stands. -/
def fTab : Fact := ⟨fun w M => TabIs Tryz.prog w "internal/strconv.uint64pow10" .u64 pow10Tab ∧ ∀ g, Tryz.prog.globalNamed "internal/strconv.uint64pow10" = some g → g < w.heap.size ∧ ¬ M g, fun {w M w' M'} h hl => by
  obtain ⟨h1, h2⟩ := h
  refine ⟨?_, fun g hg => ?_⟩
  · unfold TabIs World.var? at *
    cases hg : Tryz.prog.globalNamed "internal/strconv.uint64pow10" with
    | none => rw [hg] at h1; cases h1
    | some g =>
      rw [hg] at h1
      simp only [Option.bind_some] at h1 ⊢
      rw [hl.block g (h2 g hg).1 (h2 g hg).2]
      exact h1
  · exact ⟨Nat.lt_of_lt_of_le (h2 g hg).1 hl.size, fun hm => (h2 g hg).2 (hl.mine g (h2 g hg).1 hm)⟩⟩

theorem FormatInt_spec (e : Int) (h0 : -9223372036854775808 ≤ e) (h1 : e ≤ 9223372036854775807) : Spec Tryz.prog 194 [.int .i64 e, .int .i64 10] [] [fTab] (Gives (.string ⟨(itoa e).toArray⟩)) := by
  refine ⟨⟨Tryz.f194, _, Tryz.func194, rfl, by kernel_rfl⟩, fun w X hX hL hF => ?_⟩
  refine (Tryz.strconv_FormatInt_10 e h0 h1 w (hF _ (.head _)).1).mono ?_
  rintro en w' ⟨rfl, k, os, rfl⟩
  refine ⟨_, [], [], rfl, ⟨rfl, rfl, rfl⟩, ⟨rfl, rfl, rfl, ?_, fun x hx _ => ?_⟩, ⟨fun o h => (by cases h), trivial⟩, fun x hx => (keys_nil x hx).elim, fun φ h => (by cases h)⟩
  · show w.heap.size ≤ (w.heap ++ os).size
    simp
  · show (w.heap ++ os)[x]? = w.heap[x]?
    rw [Array.getElem?_append_left hx]


theorem sgn_neg (v : Int) : sgn v < 0 ↔ v < 0 := by
  unfold sgn
  split
  · omega
  · split <;> omega
theorem wText_itoa (v : Int) : wText (sgn v) (limbs v.natAbs) = itoa v := by
  rw [itoa_eq]
  unfold wText
  rw [limbs_val]
  by_cases h : v < 0
  · rw [if_pos ((sgn_neg v).2 h), if_pos h]
  · rw [if_neg (fun h' => h ((sgn_neg v).1 h')), if_neg h]

theorem dtext_spec (sg e : Int) (v : Value) (l : List Int) (hD : IsD sg e l) : Spec Tryz.prog 122 [vDyadic sg v e] [] [fList 1 (rInt .i64) v l, fTab] (Gives (.string ⟨(wText sg l ++ 112 :: itoa e).toArray⟩)) := by
  refine enter Tryz.func122 Tryz.ntmps122 rfl (by kernel_rfl) zCon rfl fun G => ?_
  refine c_isList (v := v) zMem fun hsl => ?_
  have hw := hD.1
  have he := hD.2.1
  have hwl : (wText sg l).length ≤ 4802 := wText_le hw
  have hel : (itoa e).length ≤ 21 := itoa_length_le e (by omega) (by omega)
  have hT := wText_len hw.inR hw.len
  have hFI := FormatInt_spec e (by omega) (by omega)
  all_goals ((try refine zS ?_) <;> (repeat' (with_reducible first | refine And.intro ?_ ?_ | intro _)))
  rename_i b
  refine c_draw ([9], []) [.box b [.int .i64 sg, v, .int .i64 e] 48] [0, 1, 5, 6, 2, 3, 4, 7, 8, 9] (by kernel_rfl) (by kernel_rfl) ?_
  all_goals ((try refine zD ?_) <;> (repeat' (with_reducible first | refine And.intro ?_ ?_ | intro _)))
  refine l_call rfl zEvs rfl (value_spec sg v l hw) zTake zFsub ?_
  rintro _ L' F' ⟨b2, mg, rfl, rfl, rfl⟩
  have hneg : decide (sg < 0) = true → 0 < vl 16777216 l := fun h => hw.trim.pos (by omega) hw.inR (hw.pos (by have := of_decide_eq_true h; omega))
  have hdec : decide (sv (decide (sg < 0)) (vl 16777216 l) < 0) = decide (sg < 0) := by
    rw [sv_neg]
    by_cases h : sg < 0
    · have := hneg (decide_eq_true h); simp [h, this]
    · simp [h]
  refine l_nil ?_
  refine ends_dig0 (.head _) fun d hd => ?_
  rw [sv_abs] at hd
  have hdl := hd.len (k := 150) (by have := vl24_lt hw.inR hw.len 0; rwa [List.drop_zero] at this)
  all_goals ((try refine zD ?_) <;> (repeat' (with_reducible first | refine And.intro ?_ ?_ | intro _)))
  refine l_call rfl zEvs rfl (String_spec b2 (decide (sv (decide (sg < 0)) (vl 16777216 l) < 0)) mg d _ hd (by omega) (by omega) (by rw [hdec]; exact hneg)) zTake zFsub ?_
  rintro _ L' F' ⟨rfl, rfl, rfl⟩
  have hbt : bText (decide (sv (decide (sg < 0)) (vl 16777216 l) < 0)) (vl 16777216 l) = wText sg l := by
    rw [hdec]
    unfold bText wText
    by_cases h : sg < 0 <;> simp [h]
  rw [hbt]
  all_goals (((try refine zD ?_) <;> (repeat' (with_reducible first | refine And.intro ?_ ?_ | intro _))) <;> (repeat' ((first | ((with_reducible apply l_callP); exact rfl; exact zEvs; exact rfl; (with_reducible apply hFI); (case hF => exact zFsub); (try any_goals (refine propId ?_; omega)))) <;> ((try refine zD ?_) <;> (repeat' (with_reducible first | refine And.intro ?_ ?_ | intro _))))))
  refine e_gives rfl zRes ?_
  simp [retVal]
end Go.Proofs.YtbllgmcpebifhaaGreatDoor.K
end
