/- Large numbers with their sign: sums and differences. -/
import Derived.Test.YtbllgmcpebifhaaGreatDoorZGa

section
namespace Go.Proofs.YtbllgmcpebifhaaGreatDoor.K
open Go Go.RowKit
set_option linter.all false
set_option maxRecDepth 4000
set_option maxHeartbeats 1000000
set_option exponentiation.threshold 8000

theorem vl_drop (b : Nat) (l : List Int) (i : Nat) (hi : i < l.length) : vl b (l.drop i) = l[i].toNat + b * vl b (l.drop (i + 1)) := by
  rw [List.drop_eq_getElem_cons hi, vl]
theorem addDigits_spec (va vb : Value) (da db : List Int) (ha : InR 4294967296 da) (hb : InR 4294967296 db) (hla : da.length ≤ 1000) (hlb : db.length ≤ 1000) : Spec Tryz.prog 236 [va, vb] [] [fList 1 (rInt .u32) va da, fList 1 (rInt .u32) vb db]
    (fun r L' F' => ∃ ds, InR 4294967296 ds ∧ vl 4294967296 ds = vl 4294967296 da + vl 4294967296 db ∧ L' = [] ∧ F' = [fList 1 (rInt .u32) r ds]) := by
  refine enter Tryz.func236 Tryz.ntmps236 rfl (by kernel_rfl) zCon rfl fun G => ?_
  all_goals ((try refine zS ?_) <;> (repeat' (with_reducible first | refine And.intro ?_ ?_ | intro _)))
  refine c_mid (κ := { p : (Value × List Int) × Value × List Int // InR 4294967296 p.1.2 ∧ InR 4294967296 p.2.2 ∧ p.1.2.length ≤ 1000 ∧ p.2.2.length ≤ p.1.2.length ∧ vl 4294967296 p.1.2 + vl 4294967296 p.2.2 = vl 4294967296 da + vl 4294967296 db }) (fun p => [(1, p.1.2.1), (0, p.1.1.1)]) (fun _ => []) (fun p => [fList 1 (rInt .u32) p.1.1.1 p.1.1.2, fList 1 (rInt .u32) p.1.2.1 p.1.2.2]) ?_ ?_
  · all_goals ((try refine zR ?_) <;> (repeat' (with_reducible first | refine And.intro ?_ ?_ | intro _)))
    · have hlt : (da.length : Int) < db.length := by assumption
      exact e_out ⟨((vb, db), (va, da)), hb, ha, hlb, by dsimp only; omega, by dsimp only; omega⟩ zSub rfl zFsub
    · have hlt : ¬ (da.length : Int) < db.length := by assumption
      exact e_out ⟨((va, da), (vb, db)), ha, hb, hla, by dsimp only; omega, rfl⟩ zSub rfl zFsub
  rintro ⟨⟨⟨v1, a⟩, ⟨v2, b⟩⟩, h1, h2, hl1, hl2, hsum⟩
  dsimp only at h1 h2 hl1 hl2 hsum ⊢
  rw [← hsum]
  all_goals ((try refine zR ?_) <;> (repeat' (with_reducible first | refine And.intro ?_ ?_ | intro _)))
  rename_i r _
  refine c_while (ι := { s : Nat × List Int × Int // s.1 ≤ a.length ∧ s.2.1.length = s.1 ∧ InR 4294967296 s.2.1 ∧ (0 ≤ s.2.2 ∧ s.2.2 ≤ 1) ∧ vl 4294967296 s.2.1 + 4294967296 ^ s.1 * s.2.2.toNat = vl 4294967296 (a.take s.1) + vl 4294967296 (b.take s.1) }) (κ := { p : List Int × Int // InR 4294967296 p.1 ∧ p.1.length = a.length ∧ (0 ≤ p.2 ∧ p.2 ≤ 1) ∧ vl 4294967296 p.1 + 4294967296 ^ a.length * p.2.toNat = vl 4294967296 a + vl 4294967296 b })
    (fun s => [(21, .int .i64 (s.1.1 : Int)), (20, .int .i64 (a.length : Int)), (6, .int .u64 s.1.2.2), (5, r), (1, v2), (0, v1)]) (fun s => [.row r 220 1 (a.length + 1) ((s.1.2.1 ++ List.replicate (a.length + 1 - s.1.1) 0).map (Value.int .u32))]) (fun _ => [fList 1 (rInt .u32) v1 a, fList 1 (rInt .u32) v2 b]) (fun s => a.length - s.1.1)
    (fun p => [(6, .int .u64 p.1.2), (5, r), (1, v2), (0, v1)]) (fun p => [.row r 220 1 (a.length + 1) ((p.1.1 ++ [0]).map (Value.int .u32))]) (fun _ => [fList 1 (rInt .u32) v1 a]) ⟨(0, [], 0), by simp [vl, InR]⟩ (fun _ _ s => s.start zSub zRfl zFsub) ?_ ?_
  · rintro ⟨⟨i, P, c⟩, hi, hP, hR, hc, hv⟩
    dsimp only at hi hP hR hc hv ⊢
    by_cases hil : i < a.length
    · have hx := h1 _ (List.getElem_mem hil)
      obtain ⟨y, hy, hyv, hyt⟩ : ∃ y : Int, (0 ≤ y ∧ y < 4294967296) ∧ ((∀ h : i < b.length, b[i] = y) ∧ (¬ i < b.length → y = 0)) ∧ vl 4294967296 (b.take (i + 1)) = vl 4294967296 (b.take i) + 4294967296 ^ i * y.toNat := by
        by_cases hib : i < b.length
        · exact ⟨b[i], h2 _ (List.getElem_mem hib), ⟨fun _ => rfl, fun h => absurd hib h⟩, vl_take_succ _ _ _ hib⟩
        · exact ⟨0, by omega, ⟨fun h => absurd h hib, fun _ => rfl⟩, by rw [List.take_of_length_le (by omega), List.take_of_length_le (by omega)]; simp⟩
      have hlen : (P ++ List.replicate (a.length + 1 - i) 0).length = a.length + 1 := by simp; omega
      all_goals ((try refine zS ?_) <;> (repeat' (with_reducible first | refine And.intro ?_ ?_ | intro _)))
      refine c_dec rfl (fun _ => ?_) (fun h => absurd h (by omega))
      all_goals ((try refine zS ?_) <;> (repeat' (with_reducible first | refine And.intro ?_ ?_ | intro _)))
      refine c_mid (κ := Unit) (fun _ => [(6, .int .u64 (c + a[i] + y)), (7, .int .i64 (i : Int)), (21, .int .i64 (i : Int)), (20, .int .i64 (a.length : Int)), (5, r), (1, v2), (0, v1)]) (fun _ => [.row r 220 1 (a.length + 1) ((P ++ List.replicate (a.length + 1 - i) 0).map (Value.int .u32))]) (fun _ => [fList 1 (rInt .u32) v1 a, fList 1 (rInt .u32) v2 b]) ?_ ?_
      · by_cases hib : i < b.length
        · have hyb := hyv.1 hib
          have hget : b[i]? = some y := by rw [List.getElem?_eq_getElem hib, hyb]
          all_goals ((try refine zR ?_) <;> (repeat' (with_reducible first | refine And.intro ?_ ?_ | intro _)))
          all_goals (first | (exfalso; omega) | skip)
          exact e_out () zSub rfl (fun _ h => h)
        · have hy0 := hyv.2 hib
          all_goals ((try refine zR ?_) <;> (repeat' (with_reducible first | refine And.intro ?_ ?_ | intro _)))
          all_goals (first | (exfalso; omega) | skip)
          exact e_out () zSub rfl (fun _ h => h)
      · intro _
        all_goals ((try refine zR ?_) <;> (repeat' (with_reducible first | refine And.intro ?_ ?_ | intro _)))
        refine e_again ⟨(i + 1, P ++ [(c + a[i] + y) % 4294967296], (c + a[i] + y) / 4294967296), by omega, by simp [hP], hR.snoc (by omega), by dsimp only; omega, ?_⟩ (by dsimp only; omega) zSub ?_ (fun _ h => h)
        · have h3 := add_step (4294967296 ^ i) (vl 4294967296 (a.take i)) (vl 4294967296 (b.take i)) (vl 4294967296 P) c.toNat a[i].toNat y.toNat hv
          dsimp only
          rw [vl_snoc, hP, vl_take_succ _ _ _ hil, hyt, ← h3, Nat.pow_succ]
          have e1 : ((c + a[i] + y) % 4294967296).toNat = (c.toNat + a[i].toNat + y.toNat) % 4294967296 := by omega
          have e2 : ((c + a[i] + y) / 4294967296).toNat = (c.toNat + a[i].toNat + y.toNat) / 4294967296 := by omega
          rw [e1, e2]
        · dsimp only
          have e0 : a.length + 1 - i = (a.length + 1 - (i + 1)) + 1 := by omega
          congr 3
          rw [e0, List.replicate_succ]
          subst hP
          rw [row_set]; simp
    · all_goals ((try refine zR ?_) <;> (repeat' (with_reducible first | refine And.intro ?_ ?_ | intro _)))
      all_goals (first | (exfalso; omega) | skip)
      have hi' : i = a.length := by omega
      subst hi'
      refine e_out ⟨(P, c), hR, hP, hc, ?_⟩ zSub (by simp) zFsub
      dsimp only
      rw [hv, List.take_length, List.take_of_length_le hl2]
  · rintro ⟨⟨p, c⟩, hp, hpl, hc, hpv⟩
    dsimp only at hp hpl hc hpv ⊢
    have hlen : (p ++ [0]).length = a.length + 1 := by simp [hpl]
    all_goals ((try refine zR ?_) <;> (repeat' (with_reducible first | refine And.intro ?_ ?_ | intro _)))
    have hset : (p ++ [0]).set a.length c = p ++ [c] := by rw [← hpl]; exact row_set p 0 c []
    rw [hset]
    refine ends_freezeInts .head rfl ?_
    refine e_resT rfl zRes .nil (fsub_cons (.head _) fsub_nil) ⟨p ++ [c], hp.snoc (by omega), ?_, rfl, rfl⟩
    rw [vl_snoc, hpl, hpv]
theorem vl_split (b : Nat) (a : List Int) (k : Nat) (hk : k < a.length) : vl b a = vl b (a.take k) + b ^ k * (a[k].toNat + b * vl b (a.drop (k + 1))) := by
  conv => lhs; rw [← List.take_append_drop k a]
  rw [vl_append, List.length_take, Nat.min_eq_left (by omega), vl_drop b a k hk]
theorem cmp_at (B : Nat) (a b : List Int) (k : Nat) (ha : InR B a) (hb : InR B b) (hk : k < a.length) (hkb : k < b.length) (hd : a.drop (k + 1) = b.drop (k + 1)) (hlt : a[k] < b[k]) : vl B a < vl B b := by
  have h1 := vl_split B a k hk
  have h2 := vl_split B b k hkb
  rw [hd] at h1
  have h3 := vl_lt B _ (ha.take k)
  rw [List.length_take, Nat.min_eq_left (by omega)] at h3
  have p1 := ha _ (List.getElem_mem hk)
  have p2 := hb _ (List.getElem_mem hkb)
  have h4 : B ^ k * (a[k].toNat + B * vl B (b.drop (k + 1)) + 1) ≤ B ^ k * (b[k].toNat + B * vl B (b.drop (k + 1))) := Nat.mul_le_mul_left _ (by omega)
  rw [Nat.mul_add, Nat.mul_one] at h4
  omega
theorem Dig.lt_of_len {a b : List Int} {x y : Nat} (ha : Dig a x) (hb : Dig b y) (h : a.length < b.length) : x < y := by
  rcases Nat.lt_or_ge x y with h' | h'
  · exact h'
  · exfalso
    have h1 := vl_lt _ _ ha.1
    rw [ha.2.2] at h1
    have := hb.len (Nat.lt_of_le_of_lt h' h1)
    omega

theorem cmpDigits_spec (va vb : Value) (a b : List Int) (x y : Nat) (ha : Dig a x) (hb : Dig b y) : Spec Tryz.prog 230 [va, vb] [] [fList 1 (rInt .u32) va a, fList 1 (rInt .u32) vb b]
    (Gives (.int .i64 (if x < y then -1 else if x = y then 0 else 1))) := by
  refine enter Tryz.func230 Tryz.ntmps230 rfl (by kernel_rfl) zCon rfl fun G => ?_
  all_goals ((try refine zS ?_) <;> (repeat' (with_reducible first | refine And.intro ?_ ?_ | intro _)))
  refine c_dec rfl (fun hne => ?_) (fun heq => ?_)
  · all_goals ((try refine zR ?_) <;> (repeat' (with_reducible first | refine And.intro ?_ ?_ | intro _)))
    · have h1 : (a.length : Int) < b.length := by assumption
      have h2 := ha.lt_of_len hb (by omega)
      refine e_gives rfl zRes ?_
      simp only [retVal, h2, if_true]
    · have h1 : ¬ (a.length : Int) < b.length := by assumption
      have h2 := hb.lt_of_len ha (by omega)
      have h3 : ¬ x < y := by omega
      have h4 : ¬ x = y := by omega
      refine e_gives rfl zRes ?_
      simp only [retVal, h3, h4, if_false]
  have hlen : a.length = b.length := by omega
  all_goals ((try refine zR ?_) <;> (repeat' (with_reducible first | refine And.intro ?_ ?_ | intro _)))
  refine c_while (ι := { i : Nat // i ≤ a.length ∧ a.drop i = b.drop i }) (κ := { _u : Unit // x = y }) (fun i => [(5, .int .i64 ((i.1 : Int) - 1)), (1, vb), (0, va)]) (fun _ => []) (fun _ => [fList 1 (rInt .u32) va a, fList 1 (rInt .u32) vb b]) (fun i => i.1)
    (fun _ => []) (fun _ => []) (fun _ => []) ⟨a.length, Nat.le_refl _, by rw [List.drop_length, hlen, List.drop_length]⟩ (fun _ _ s => s.start zSub zRfl zFsub) ?_ ?_
  · rintro ⟨i, hi, hd⟩
    dsimp only
    rcases Nat.eq_zero_or_pos i with hi0 | hi0
    · subst hi0
      have hab : a = b := by simpa using hd
      have hxy : x = y := by rw [← ha.2.2, ← hb.2.2, hab]
      have h3 : ¬ x < y := by omega
      all_goals (((try refine zD ?_) <;> (repeat' (with_reducible first | refine And.intro ?_ ?_ | intro _))) <;> (repeat' ((first | refine c_draw ([8], []) [] [0, 1, 2, 3, 4, 5, 6, 7, 8] (by kernel_rfl) (by kernel_rfl) ?_) <;> ((try refine zD ?_) <;> (repeat' (with_reducible first | refine And.intro ?_ ?_ | intro _))))))
      exact e_out ⟨(), hxy⟩ zSub rfl zFsub
    · obtain ⟨k, rfl⟩ : ∃ k, i = k + 1 := ⟨i - 1, by omega⟩
      have hk : k < a.length := by omega
      have hkb : k < b.length := by omega
      refine c_say (t := 5) (v' := .int .i64 (k : Int)) rfl (congrArg _ (by omega)) ?_
      all_goals (((try refine zD ?_) <;> (repeat' (with_reducible first | refine And.intro ?_ ?_ | intro _))) <;> (repeat' ((first | refine c_draw ([8], []) [] [0, 1, 2, 3, 4, 5, 6, 7, 8] (by kernel_rfl) (by kernel_rfl) ?_) <;> ((try refine zD ?_) <;> (repeat' (with_reducible first | refine And.intro ?_ ?_ | intro _))))))
      · have hlt : a[k] < b[k] := by assumption
        have h2 := cmp_at _ a b k ha.1 hb.1 hk hkb hd hlt
        rw [ha.2.2, hb.2.2] at h2
        refine e_gives rfl zRes ?_
        simp only [retVal, h2, if_true]
      · have hne : a[k] ≠ b[k] := by assumption
        have hnl : ¬ a[k] < b[k] := by assumption
        have h2 := cmp_at _ b a k hb.1 ha.1 hkb hk hd.symm (by omega)
        rw [ha.2.2, hb.2.2] at h2
        have h3 : ¬ x < y := by omega
        have h4 : ¬ x = y := by omega
        refine e_gives rfl zRes ?_
        simp only [retVal, h3, h4, if_false]
      · have he : ¬ a[k] ≠ b[k] := by assumption
        refine e_again ⟨k, by omega, ?_⟩ (by dsimp only; omega) zSub rfl (fun _ h => h)
        rw [List.drop_eq_getElem_cons hk, List.drop_eq_getElem_cons hkb, hd, Decidable.of_not_not he]
  · rintro ⟨_, hxy⟩
    have h3 : ¬ x < y := by omega
    all_goals ((try refine zR ?_) <;> (repeat' (with_reducible first | refine And.intro ?_ ?_ | intro _)))
    refine e_gives rfl zRes ?_
    simp only [retVal, h3, hxy, if_true, if_false, Nat.lt_irrefl]

theorem subDigits_spec (va vb : Value) (a b : List Int) (ha : InR 4294967296 a) (hb : InR 4294967296 b) (hl : b.length ≤ a.length) (hla : a.length ≤ 1000) (hle : vl 4294967296 b ≤ vl 4294967296 a) : Spec Tryz.prog 268 [va, vb] [] [fList 1 (rInt .u32) va a, fList 1 (rInt .u32) vb b]
    (fun r L' F' => ∃ ds, InR 4294967296 ds ∧ vl 4294967296 ds = vl 4294967296 a - vl 4294967296 b ∧ L' = [] ∧ F' = [fList 1 (rInt .u32) r ds]) := by
  refine enter Tryz.func268 Tryz.ntmps268 rfl (by kernel_rfl) zCon rfl fun G => ?_
  all_goals ((try refine zR ?_) <;> (repeat' (with_reducible first | refine And.intro ?_ ?_ | intro _)))
  rename_i r _
  refine c_while (ι := { s : Nat × List Int × Int // s.1 ≤ a.length ∧ s.2.1.length = s.1 ∧ InR 4294967296 s.2.1 ∧ (0 ≤ s.2.2 ∧ s.2.2 ≤ 1) ∧ vl 4294967296 s.2.1 + vl 4294967296 (b.take s.1) = vl 4294967296 (a.take s.1) + 4294967296 ^ s.1 * s.2.2.toNat }) (κ := { p : List Int // InR 4294967296 p ∧ vl 4294967296 p = vl 4294967296 a - vl 4294967296 b })
    (fun s => [(14, .int .i64 (s.1.1 : Int)), (13, .int .i64 (a.length : Int)), (6, .int .u64 s.1.2.2), (5, r), (1, vb), (0, va)]) (fun s => [.row r 220 1 a.length ((s.1.2.1 ++ List.replicate (a.length - s.1.1) 0).map (Value.int .u32))]) (fun _ => [fList 1 (rInt .u32) va a, fList 1 (rInt .u32) vb b]) (fun s => a.length - s.1.1)
    (fun p => [(5, r)]) (fun p => [.row r 220 1 a.length (p.1.map (Value.int .u32))]) (fun _ => []) ⟨(0, [], 0), by simp [vl, InR]⟩ (fun _ _ s => s.start zSub zRfl zFsub) ?_ ?_
  · rintro ⟨⟨i, P, c⟩, hi, hP, hR, hc, hv⟩
    dsimp only at hi hP hR hc hv ⊢
    by_cases hil : i < a.length
    · have hx := ha _ (List.getElem_mem hil)
      obtain ⟨y, hy, hyv, hyt⟩ : ∃ y : Int, (0 ≤ y ∧ y < 4294967296) ∧ ((∀ h : i < b.length, b[i] = y) ∧ (¬ i < b.length → y = 0)) ∧ vl 4294967296 (b.take (i + 1)) = vl 4294967296 (b.take i) + 4294967296 ^ i * y.toNat := by
        by_cases hib : i < b.length
        · exact ⟨b[i], hb _ (List.getElem_mem hib), ⟨fun _ => rfl, fun h => absurd hib h⟩, vl_take_succ _ _ _ hib⟩
        · exact ⟨0, by omega, ⟨fun h => absurd h hib, fun _ => rfl⟩, by rw [List.take_of_length_le (by omega), List.take_of_length_le (by omega)]; simp⟩
      have hlen : (P ++ List.replicate (a.length - i) 0).length = a.length := by simp; omega
      all_goals ((try refine zS ?_) <;> (repeat' (with_reducible first | refine And.intro ?_ ?_ | intro _)))
      refine c_dec rfl (fun _ => ?_) (fun h => absurd h (by omega))
      all_goals ((try refine zS ?_) <;> (repeat' (with_reducible first | refine And.intro ?_ ?_ | intro _)))
      refine c_mid (κ := Unit) (fun _ => [(8, .int .u64 ((a[i] - c - y) % 18446744073709551616)), (7, .int .i64 (i : Int)), (14, .int .i64 (i : Int)), (13, .int .i64 (a.length : Int)), (5, r), (1, vb), (0, va)]) (fun _ => [.row r 220 1 a.length ((P ++ List.replicate (a.length - i) 0).map (Value.int .u32))]) (fun _ => [fList 1 (rInt .u32) va a, fList 1 (rInt .u32) vb b]) ?_ ?_
      · by_cases hib : i < b.length
        · have hyb := hyv.1 hib
          have hget : b[i]? = some y := by rw [List.getElem?_eq_getElem hib, hyb]
          all_goals ((try refine zR ?_) <;> (repeat' (with_reducible first | refine And.intro ?_ ?_ | intro _)))
          all_goals (first | (exfalso; omega) | skip)
          exact e_out () zSub rfl (fun _ h => h)
        · have hy0 := hyv.2 hib
          all_goals ((try refine zR ?_) <;> (repeat' (with_reducible first | refine And.intro ?_ ?_ | intro _)))
          all_goals (first | (exfalso; omega) | skip)
          exact e_out () zSub rfl (fun _ h => h)
      · intro _
        all_goals ((try refine zR ?_) <;> (repeat' (with_reducible first | refine And.intro ?_ ?_ | intro _)))
        have e1 : (a[i] - c - y) % 18446744073709551616 % 4294967296 = a[i] - c - y ∧ (a[i] - c - y) % 18446744073709551616 / 9223372036854775808 = 0 ∨ (a[i] - c - y) % 18446744073709551616 % 4294967296 = a[i] - c - y + 4294967296 ∧ (a[i] - c - y) % 18446744073709551616 / 9223372036854775808 = 1 := by omega
        refine e_again ⟨(i + 1, P ++ [(a[i] - c - y) % 18446744073709551616 % 4294967296], (a[i] - c - y) % 18446744073709551616 / 9223372036854775808), by omega, by simp [hP], hR.snoc (by omega), by dsimp only; omega, ?_⟩ (by dsimp only; omega) zSub ?_ (fun _ h => h)
        · dsimp only
          rw [vl_snoc, hP, vl_take_succ _ _ _ hil, hyt, Nat.pow_succ]
          exact sub_step 4294967296 (4294967296 ^ i) _ _ _ _ _ c.toNat _ _ hv (by omega)
        · dsimp only
          have e0 : a.length - i = (a.length - (i + 1)) + 1 := by omega
          congr 3
          rw [e0, List.replicate_succ]
          subst hP
          rw [row_set]; simp
    · all_goals ((try refine zR ?_) <;> (repeat' (with_reducible first | refine And.intro ?_ ?_ | intro _)))
      all_goals (first | (exfalso; omega) | skip)
      have hi' : i = a.length := by omega
      subst hi'
      rw [List.take_length, List.take_of_length_le hl] at hv
      have hp := vl_lt _ _ hR
      rw [hP] at hp
      have hc0 : c.toNat = 0 := by
        rcases Nat.eq_zero_or_pos c.toNat with h | h
        · exact h
        · exfalso
          have : c.toNat = 1 := by omega
          rw [this] at hv
          omega
      rw [hc0] at hv
      exact e_out ⟨P, hR, by omega⟩ zSub (by simp) zFsub
  · rintro ⟨p, hp, hpv⟩
    dsimp only at hp hpv ⊢
    all_goals ((try refine zR ?_) <;> (repeat' (with_reducible first | refine And.intro ?_ ?_ | intro _)))
    refine ends_freezeInts .head rfl ?_
    exact e_resT rfl zRes .nil (fsub_cons (.head _) fsub_nil) ⟨p, hp, hpv, rfl, rfl⟩

theorem Dig.le_len {a b : List Int} {x y : Nat} (ha : Dig a x) (hb : Dig b y) (h : y ≤ x) : b.length ≤ a.length := by
  rcases Nat.lt_or_ge a.length b.length with h1 | h1
  · have := ha.lt_of_len hb h1; omega
  · exact h1

theorem sum_spec (z x y : Nat) (vx vy : Int) (n0 neg : Bool) (m0 mx my : Value) (R : List Own) (hx : oInt x vx mx ∈ oBig z n0 m0 :: R) (hy : oInt y vy my ∈ oBig z n0 m0 :: R) (hvx : vx.natAbs < 4294967296 ^ 900) (hvy : vy.natAbs < 4294967296 ^ 900) :
    Spec Tryz.prog 225 [ptr z, ptr x, ptr y, .bool neg] (oBig z n0 m0 :: R) [fDig mx vx.natAbs, fDig my vy.natAbs] (PInt z (vx + sv neg vy.natAbs) R) := by
  refine enter Tryz.func225 Tryz.ntmps225 rfl (by kernel_rfl) zCon rfl fun G => ?_
  refine c_dig (mag := mx) zMem fun a ha => ?_
  refine c_dig (mag := my) zMem fun b hb => ?_
  refine c_isList (v := mx) zMem fun hs1 => ?_
  refine c_isList (v := my) zMem fun hs2 => ?_
  have hla := ha.len hvx
  have hlb := hb.len hvy
  have hcmp := cmpDigits_spec mx my a b _ _ ha hb
  all_goals ((try refine zS ?_) <;> (repeat' (with_reducible first | refine And.intro ?_ ?_ | intro _)))
  refine c_dec rfl (fun hn => ?_) (fun hn => ?_)
  · all_goals ((try refine zS ?_) <;> (repeat' (with_reducible first | refine And.intro ?_ ?_ | intro _)))
    refine c_draw ([11, 12], []) [oInt x vx mx, oInt y vy my] [0, 1, 2, 3, 4, 5, 6, 7, 8, 9, 10, 11, 12] (by kernel_rfl) (by kernel_rfl) ?_
    all_goals ((try refine zD ?_) <;> (repeat' (with_reducible first | refine And.intro ?_ ?_ | intro _)))
    refine l_call rfl zEvs rfl (addDigits_spec mx my a b ha.1 hb.1 (by omega) (by omega)) zTake zFsub ?_
    rintro mr L' F' ⟨ds, hds, hv, rfl, rfl⟩
    all_goals ((try refine zD ?_) <;> (repeat' (with_reducible first | refine And.intro ?_ ?_ | intro _)))
    refine l_call rfl zEvs rfl (put_spec z n0 neg m0 mr ds hds) zTake zFsub ?_
    rintro _ L' F' ⟨mag', rfl, rfl, rfl⟩
    all_goals ((try refine zD ?_) <;> (repeat' (with_reducible first | refine And.intro ?_ ?_ | intro _)))
    have e : sv neg (vl 4294967296 ds) = vx + sv neg vy.natAbs := by
      rw [hv, ha.2.2, hb.2.2]
      conv => rhs; rw [← sv_abs_eq vx, hn]
      unfold sv; cases neg <;> simp <;> omega
    rw [e]
    exact e_res rfl zRes _ _ (fun _ h => h) (fun _ h => h.apart) (fsub_cons (.head _) fsub_nil) ⟨mag', rfl, rfl, rfl⟩
  · all_goals ((try refine zS ?_) <;> (repeat' (with_reducible first | refine And.intro ?_ ?_ | intro _)))
    refine c_draw ([10], []) [oInt x vx mx, oInt y vy my] [0, 1, 2, 3, 4, 5, 6, 7, 8, 9, 10] (by kernel_rfl) (by kernel_rfl) ?_
    all_goals (((try refine zD ?_) <;> (repeat' (with_reducible first | refine And.intro ?_ ?_ | intro _))) <;> (repeat' ((first | ((with_reducible apply l_callP); exact rfl; exact zEvs; exact rfl; (with_reducible apply hcmp); (case hF => exact zFsub); (try any_goals (refine propId ?_; omega)))) <;> ((try refine zD ?_) <;> (repeat' (with_reducible first | refine And.intro ?_ ?_ | intro _))))))
    · have hge : vy.natAbs ≤ vx.natAbs := by
        have h0 : 0 ≤ (if vx.natAbs < vy.natAbs then (-1 : Int) else if vx.natAbs = vy.natAbs then 0 else 1) := by assumption
        rcases Nat.lt_or_ge vx.natAbs vy.natAbs with h | h
        · rw [if_pos h] at h0; omega
        · exact h
      refine c_draw ([14, 15], []) [oInt x vx mx, oInt y vy my] [0, 1, 2, 3, 4, 5, 6, 7, 8, 9, 10, 11, 12, 13, 14, 15] (by kernel_rfl) (by kernel_rfl) ?_
      all_goals ((try refine zD ?_) <;> (repeat' (with_reducible first | refine And.intro ?_ ?_ | intro _)))
      refine l_call rfl zEvs rfl (subDigits_spec mx my a b ha.1 hb.1 (ha.le_len hb hge) (by omega) (by rw [ha.2.2, hb.2.2]; exact hge)) zTake zFsub ?_
      rintro mr L' F' ⟨ds, hds, hv, rfl, rfl⟩
      all_goals ((try refine zD ?_) <;> (repeat' (with_reducible first | refine And.intro ?_ ?_ | intro _)))
      refine l_call rfl zEvs rfl (put_spec z n0 (decide (vx < 0)) m0 mr ds hds) zTake zFsub ?_
      rintro _ L' F' ⟨mag', rfl, rfl, rfl⟩
      all_goals ((try refine zD ?_) <;> (repeat' (with_reducible first | refine And.intro ?_ ?_ | intro _)))
      have e : sv (decide (vx < 0)) (vl 4294967296 ds) = vx + sv neg vy.natAbs := by
        rw [hv, ha.2.2, hb.2.2]
        unfold sv
        by_cases h : vx < 0 <;> cases neg <;> simp [h] at hn ⊢ <;> omega
      rw [e]
      exact e_res rfl zRes _ _ (fun _ h => h) (fun _ h => h.apart) (fsub_cons (.head _) fsub_nil) ⟨mag', rfl, rfl, rfl⟩
    · have hlt : vx.natAbs < vy.natAbs := by
        have h0 : ¬ 0 ≤ (if vx.natAbs < vy.natAbs then (-1 : Int) else if vx.natAbs = vy.natAbs then 0 else 1) := by assumption
        rcases Nat.lt_or_ge vx.natAbs vy.natAbs with h | h
        · exact h
        · exfalso; apply h0; rw [if_neg (by omega)]; split <;> omega
      refine c_draw ([11, 12], []) [oInt x vx mx, oInt y vy my] [0, 1, 2, 3, 4, 5, 6, 7, 8, 9, 10, 11, 12] (by kernel_rfl) (by kernel_rfl) ?_
      all_goals ((try refine zD ?_) <;> (repeat' (with_reducible first | refine And.intro ?_ ?_ | intro _)))
      refine l_call rfl zEvs rfl (subDigits_spec my mx b a hb.1 ha.1 (hb.le_len ha (by omega)) (by omega) (by rw [ha.2.2, hb.2.2]; omega)) zTake zFsub ?_
      rintro mr L' F' ⟨ds, hds, hv, rfl, rfl⟩
      all_goals ((try refine zD ?_) <;> (repeat' (with_reducible first | refine And.intro ?_ ?_ | intro _)))
      refine l_call rfl zEvs rfl (put_spec z n0 neg m0 mr ds hds) zTake zFsub ?_
      rintro _ L' F' ⟨mag', rfl, rfl, rfl⟩
      all_goals ((try refine zD ?_) <;> (repeat' (with_reducible first | refine And.intro ?_ ?_ | intro _)))
      have e : sv neg (vl 4294967296 ds) = vx + sv neg vy.natAbs := by
        rw [hv, ha.2.2, hb.2.2]
        unfold sv
        by_cases h : vx < 0 <;> cases neg <;> simp [h] at hn ⊢ <;> omega
      rw [e]
      exact e_res rfl zRes _ _ (fun _ h => h) (fun _ h => h.apart) (fsub_cons (.head _) fsub_nil) ⟨mag', rfl, rfl, rfl⟩

theorem Add_spec (z x y : Nat) (vx vy : Int) (n0 : Bool) (m0 mx my : Value) (R : List Own) (hx : oInt x vx mx ∈ oBig z n0 m0 :: R) (hy : oInt y vy my ∈ oBig z n0 m0 :: R) (hvx : vx.natAbs < 4294967296 ^ 900) (hvy : vy.natAbs < 4294967296 ^ 900) :
    Spec Tryz.prog 168 [ptr z, ptr x, ptr y] (oBig z n0 m0 :: R) [fDig mx vx.natAbs, fDig my vy.natAbs] (PInt z (vx + vy) R) := by
  refine enter Tryz.func168 Tryz.ntmps168 rfl (by kernel_rfl) zCon rfl fun G => ?_
  all_goals ((try refine zR ?_) <;> (repeat' (with_reducible first | refine And.intro ?_ ?_ | intro _)))
  refine l_call rfl zEvs rfl (sum_spec z x y vx vy n0 (decide (vy < 0)) m0 mx my R hx hy hvx hvy) (takeAll _) zFsub ?_
  rintro _ L' F' ⟨mag', rfl, rfl, rfl⟩
  all_goals ((try refine zR ?_) <;> (repeat' (with_reducible first | refine And.intro ?_ ?_ | intro _)))
  rw [sv_abs_eq]
  exact e_res rfl zRes _ _ (by simp) (fun _ h => by simpa using h.apart) (fsub_cons (.head _) fsub_nil) ⟨mag', rfl, rfl, rfl⟩

theorem Sub_spec (z x y : Nat) (vx vy : Int) (n0 : Bool) (m0 mx my : Value) (R : List Own) (hx : oInt x vx mx ∈ oBig z n0 m0 :: R) (hy : oInt y vy my ∈ oBig z n0 m0 :: R) (hvx : vx.natAbs < 4294967296 ^ 900) (hvy : vy.natAbs < 4294967296 ^ 900) :
    Spec Tryz.prog 176 [ptr z, ptr x, ptr y] (oBig z n0 m0 :: R) [fDig mx vx.natAbs, fDig my vy.natAbs] (PInt z (vx - vy) R) := by
  refine enter Tryz.func176 Tryz.ntmps176 rfl (by kernel_rfl) zCon rfl fun G => ?_
  all_goals ((try refine zR ?_) <;> (repeat' (with_reducible first | refine And.intro ?_ ?_ | intro _)))
  refine l_call rfl zEvs rfl (sum_spec z x y vx vy n0 _ m0 mx my R hx hy hvx hvy) (takeAll _) zFsub ?_
  rintro _ L' F' ⟨mag', rfl, rfl, rfl⟩
  all_goals ((try refine zR ?_) <;> (repeat' (with_reducible first | refine And.intro ?_ ?_ | intro _)))
  have e : vx + sv (decide (¬ vy < 0)) vy.natAbs = vx - vy := by
    unfold sv
    by_cases h : vy < 0 <;> simp [h] <;> omega
  rw [e]
  exact e_res rfl zRes _ _ (by simp) (fun _ h => by simpa using h.apart) (fsub_cons (.head _) fsub_nil) ⟨mag', rfl, rfl, rfl⟩
end Go.Proofs.YtbllgmcpebifhaaGreatDoor.K
end

section
/- Large numbers with their sign: products. -/
namespace Go.Proofs.YtbllgmcpebifhaaGreatDoor.K
open Go Go.RowKit
set_option linter.all false
set_option maxRecDepth 4000
set_option maxHeartbeats 1000000
set_option exponentiation.threshold 8000

/-- The product's digits after i rounds. -/
structure MulO (a b : List Int) (i : Nat) (o : List Int) : Prop where
  len : o.length = a.length + b.length
  inr : InR 4294967296 o
  val : vl 4294967296 o = vl 4294967296 (a.take i) * vl 4294967296 b
  zero : ∀ j, i + b.length ≤ j → j < o.length → o.getD j 0 = 0
/-- .. and after k steps of a round. -/
structure MulI (a b : List Int) (i k : Nat) (c : Int) (o : List Int) : Prop where
  len : o.length = a.length + b.length
  inr : InR 4294967296 o
  carry : 0 ≤ c ∧ c < 4294967296
  val : vl 4294967296 o + 4294967296 ^ (i + k) * c.toNat = vl 4294967296 (a.take i) * vl 4294967296 b + (a.getD i 0).toNat * (4294967296 ^ i * vl 4294967296 (b.take k))
  zero : ∀ j, i + b.length ≤ j → j < o.length → o.getD j 0 = 0

theorem MulO.start {a b o : List Int} {i : Nat} (h : MulO a b i o) : MulI a b i 0 0 o :=
  ⟨h.len, h.inr, by omega, by rw [h.val]; simp [vl], h.zero⟩
theorem prod_bound {x y : Int} (hx : 0 ≤ x ∧ x < 4294967296) (hy : 0 ≤ y ∧ y < 4294967296) : 0 ≤ x * y ∧ x * y ≤ 18446744065119617025 := by
  refine ⟨Int.mul_nonneg hx.1 hy.1, ?_⟩
  have h1 : x * y ≤ 4294967295 * y := Int.mul_le_mul_of_nonneg_right (by omega) hy.1
  omega
theorem MulI.step {a b o : List Int} {i k : Nat} {c t : Int} (h : MulI a b i k c o) (ha : InR 4294967296 a) (hb : InR 4294967296 b) (hi : i < a.length) (hk : k < b.length) (hik : i + k < o.length) (ht : t = c + (a[i] * b[k] + o[i + k])) :
    MulI a b i (k + 1) (t / 4294967296) (o.set (i + k) (t % 4294967296)) := by
  have hx := ha _ (List.getElem_mem hi)
  have hy := hb _ (List.getElem_mem hk)
  have ho := h.inr _ (List.getElem_mem hik)
  have hp := prod_bound hx hy
  have hc := h.carry
  refine ⟨by simp [h.len], h.inr.set _ (by omega), by omega, ?_, fun j hj hl => ?_⟩
  · have h1 := vl_set 4294967296 o (i + k) hik (t % 4294967296)
    have hai : a.getD i 0 = a[i] := by rw [List.getD_eq_getElem?_getD, List.getElem?_eq_getElem hi]; rfl
    have h2 := h.val
    rw [hai] at h2 ⊢
    have htn : t.toNat = c.toNat + a[i].toNat * b[k].toNat + o[i + k].toNat := by
      have e : (a[i] * b[k]).toNat = a[i].toNat * b[k].toNat := by rw [Int.toNat_mul hx.1 hy.1]
      omega
    have e1 : (t % 4294967296).toNat = t.toNat % 4294967296 := by omega
    have e2 : (t / 4294967296).toNat = t.toNat / 4294967296 := by omega
    rw [e1] at h1
    have h3 := mul_step 4294967296 (4294967296 ^ (i + k)) _ _ c.toNat a[i].toNat b[k].toNat o[i + k].toNat t.toNat _ h1 h2 htn
    rw [e2, vl_take_succ _ _ _ hk, show i + (k + 1) = (i + k) + 1 by omega, Nat.pow_succ 4294967296 (i + k), h3, Nat.add_assoc]
    congr 1
    rw [Nat.mul_add, Nat.mul_add, Nat.pow_add]
    congr 1
    ac_rfl
  · rw [List.length_set] at hl
    rw [List.getD_eq_getElem?_getD, List.getElem?_set_ne (by omega), ← List.getD_eq_getElem?_getD]
    exact h.zero j hj hl
theorem MulI.last {a b o : List Int} {i : Nat} {c : Int} (h : MulI a b i b.length c o) (hi : i < a.length) : MulO a b (i + 1) (o.set (i + b.length) c) := by
  have hil : i + b.length < o.length := by rw [h.len]; omega
  refine ⟨by simp [h.len], h.inr.set _ h.carry, ?_, fun j hj hl => ?_⟩
  · have h1 := vl_set 4294967296 o (i + b.length) hil c
    have h0 := h.zero (i + b.length) (Nat.le_refl _) hil
    rw [List.getD_eq_getElem?_getD, List.getElem?_eq_getElem hil] at h0
    have h0 : o[i + b.length] = 0 := h0
    have hai : a.getD i 0 = a[i] := by rw [List.getD_eq_getElem?_getD, List.getElem?_eq_getElem hi]; rfl
    have h2 := h.val
    rw [hai, List.take_length] at h2
    rw [h0] at h1
    simp only [Int.toNat_zero, Nat.mul_zero, Nat.add_zero] at h1
    rw [h1, h2, vl_take_succ _ _ _ hi, Nat.add_mul]
    congr 1
    ac_rfl
  · rw [List.length_set] at hl
    rw [List.getD_eq_getElem?_getD, List.getElem?_set_ne (by omega), ← List.getD_eq_getElem?_getD]
    exact h.zero j (by omega) hl

theorem Mul_spec (z x y : Nat) (vx vy : Int) (n0 : Bool) (m0 mx my : Value) (R : List Own) (hx : oInt x vx mx ∈ oBig z n0 m0 :: R) (hy : oInt y vy my ∈ oBig z n0 m0 :: R) (hvx : vx.natAbs < 4294967296 ^ 900) (hvy : vy.natAbs < 4294967296 ^ 900) :
    Spec Tryz.prog 242 [ptr z, ptr x, ptr y] (oBig z n0 m0 :: R) [fDig mx vx.natAbs, fDig my vy.natAbs] (PInt z (vx * vy) R) := by
  refine enter Tryz.func242 Tryz.ntmps242 rfl (by kernel_rfl) zCon rfl fun G => ?_
  refine c_dig (mag := mx) zMem fun a ha => ?_
  refine c_dig (mag := my) zMem fun b hb => ?_
  refine c_isList (v := mx) zMem fun hs1 => ?_
  refine c_isList (v := my) zMem fun hs2 => ?_
  have hla := ha.len hvx
  have hlb := hb.len hvy
  all_goals ((try refine zS ?_) <;> (repeat' (with_reducible first | refine And.intro ?_ ?_ | intro _)))
  refine c_draw ([11, 12], []) [oInt x vx mx, oInt y vy my] [0, 1, 2, 3, 4, 5, 6, 7, 8, 9, 10, 11, 12] (by kernel_rfl) (by kernel_rfl) ?_
  all_goals ((try refine zD ?_) <;> (repeat' (with_reducible first | refine And.intro ?_ ?_ | intro _)))
  rename_i r _
  refine c_while (ι := { p : Nat × List Int // p.1 ≤ a.length ∧ MulO a b p.1 p.2 }) (κ := { o : List Int // MulO a b a.length o })
    (fun p => [(30, .int .i64 (p.1.1 : Int)), (29, .int .i64 (a.length : Int)), (28, mx), (7, r), (2, ptr y), (1, ptr x), (0, ptr z)]) (fun p => .row r 220 1 (a.length + b.length) (p.1.2.map (Value.int .u32)) :: oBig z n0 m0 :: R) (fun _ => [fList 1 (rInt .u32) mx a, fList 1 (rInt .u32) my b]) (fun p => a.length - p.1.1)
    (fun _ => [(7, r), (2, ptr y), (1, ptr x), (0, ptr z)]) (fun p => .row r 220 1 (a.length + b.length) (p.1.map (Value.int .u32)) :: oBig z n0 m0 :: R) (fun _ => []) ⟨(0, List.replicate (a.length + b.length) 0), Nat.zero_le _, ⟨by simp, fun x hx => by rw [List.eq_of_mem_replicate hx]; omega, by rw [vl_zeros _ _ (fun x hx => List.eq_of_mem_replicate hx)]; simp [vl], fun j _ hj => by simp [List.getD_eq_getElem?_getD, List.getElem?_replicate]; split <;> rfl⟩⟩ (fun _ _ s => s.start zSub zRfl zFsub) ?_ ?_
  · rintro ⟨⟨i, o⟩, hi, hO⟩
    dsimp only at hi hO ⊢
    by_cases hil : i < a.length
    · have hxa := ha.1 _ (List.getElem_mem hil)
      have hol := hO.len
      all_goals ((try refine zR ?_) <;> (repeat' (with_reducible first | refine And.intro ?_ ?_ | intro _)))
      all_goals (first | (exfalso; omega) | skip)
      refine c_while (ι := { p : Nat × Int × List Int // p.1 ≤ b.length ∧ MulI a b i p.1 p.2.1 p.2.2 }) (κ := { p : Int × List Int // MulI a b i b.length p.1 p.2 })
        (fun p => [(40, .int .i64 (p.1.1 : Int)), (39, .int .i64 (b.length : Int)), (38, my), (10, .int .u64 p.1.2.1), (9, .int .u32 a[i]), (8, .int .i64 (i : Int)), (30, .int .i64 (i : Int)), (29, .int .i64 (a.length : Int)), (28, mx), (7, r), (2, ptr y), (1, ptr x), (0, ptr z)]) (fun p => .row r 220 1 (a.length + b.length) (p.1.2.2.map (Value.int .u32)) :: oBig z n0 m0 :: R) (fun _ => [fList 1 (rInt .u32) mx a, fList 1 (rInt .u32) my b]) (fun p => b.length - p.1.1)
        (fun p => [(10, .int .u64 p.1.1), (8, .int .i64 (i : Int)), (30, .int .i64 (i : Int)), (29, .int .i64 (a.length : Int)), (28, mx), (7, r), (2, ptr y), (1, ptr x), (0, ptr z)]) (fun p => .row r 220 1 (a.length + b.length) (p.1.2.map (Value.int .u32)) :: oBig z n0 m0 :: R) (fun _ => [fList 1 (rInt .u32) mx a, fList 1 (rInt .u32) my b]) ⟨(0, 0, o), Nat.zero_le _, hO.start⟩ (fun _ _ s => s.start zSub zRfl zFsub) ?_ ?_
      · rintro ⟨⟨k, c, o'⟩, hk, hI⟩
        dsimp only at hk hI ⊢
        have hol' := hI.len
        by_cases hkl : k < b.length
        · have hyb := hb.1 _ (List.getElem_mem hkl)
          have hp := prod_bound hxa hyb
          have hik : i + k < o'.length := by omega
          have hoo := hI.inr _ (List.getElem_mem hik)
          have hget : o'[i + k]? = some o'[i + k] := List.getElem?_eq_getElem hik
          have hw : IntKind.u64.wrap (a[i] * b[k]) = a[i] * b[k] := w_u64 (by omega)
          have hc := hI.carry
          have hst := hI.step ha.1 hb.1 hil hkl hik rfl
          all_goals ((try refine zR ?_) <;> (repeat' (with_reducible first | refine And.intro ?_ ?_ | intro _)))
          all_goals (first | (exfalso; omega) | skip)
          exact e_again ⟨(k + 1, _, _), by omega, hst⟩ (by dsimp only; omega) zSub rfl (fun _ h => h)
        · have : k = b.length := by omega
          subst this
          all_goals ((try refine zR ?_) <;> (repeat' (with_reducible first | refine And.intro ?_ ?_ | intro _)))
          all_goals (first | (exfalso; omega) | skip)
          exact e_out ⟨(c, o'), hI⟩ zSub rfl (fun _ h => h)
      · rintro ⟨⟨c, o'⟩, hI⟩
        dsimp only at hI ⊢
        have hol' := hI.len
        have hc := hI.carry
        all_goals ((try refine zR ?_) <;> (repeat' (with_reducible first | refine And.intro ?_ ?_ | intro _)))
        exact e_again ⟨(i + 1, _), by omega, hI.last hil⟩ (by dsimp only; omega) zSub rfl (fun _ h => h)
    · have : i = a.length := by omega
      subst this
      all_goals ((try refine zR ?_) <;> (repeat' (with_reducible first | refine And.intro ?_ ?_ | intro _)))
      all_goals (first | (exfalso; omega) | skip)
      exact e_out ⟨o, hO⟩ zSub rfl (fun _ h => by cases h)
  · rintro ⟨o, hO⟩
    dsimp only at hO ⊢
    all_goals ((try refine zS ?_) <;> (repeat' (with_reducible first | refine And.intro ?_ ?_ | intro _)))
    refine c_draw ([11, 12], []) [oInt x vx mx, oInt y vy my] [0, 1, 2, 3, 4, 5, 6, 7, 8, 9, 10, 11, 12] (by kernel_rfl) (by kernel_rfl) ?_
    all_goals ((try refine zD ?_) <;> (repeat' (with_reducible first | refine And.intro ?_ ?_ | intro _)))
    refine l_freezeInts .head rfl ?_
    refine l_call rfl zEvs rfl (put_spec z n0 _ m0 r o hO.inr) zTake zFsub ?_
    rintro _ L' F' ⟨mag', rfl, rfl, rfl⟩
    all_goals ((try refine zD ?_) <;> (repeat' (with_reducible first | refine And.intro ?_ ?_ | intro _)))
    have e : sv (decide (decide (vx < 0) ≠ decide (vy < 0))) (vl 4294967296 o) = vx * vy := by
      rw [hO.val, List.take_length, ha.2.2, hb.2.2]
      conv => rhs; rw [← sv_abs_eq vx, ← sv_abs_eq vy]
      unfold sv
      generalize vx.natAbs = p
      generalize vy.natAbs = q
      by_cases h1 : vx < 0 <;> by_cases h2 : vy < 0 <;> simp [h1, h2, Int.neg_mul, Int.mul_neg]
    rw [e]
    exact e_res rfl zRes _ _ (fun _ h => h) (fun _ h => h.apart) (fsub_cons (.head _) fsub_nil) ⟨mag', rfl, rfl, rfl⟩
end Go.Proofs.YtbllgmcpebifhaaGreatDoor.K
end

section
/- Large numbers with their sign: Sign, Abs, Neg, Int64, Rsh of numbers that are at least 0. -/
namespace Go.Proofs.YtbllgmcpebifhaaGreatDoor.K
open Go Go.RowKit
set_option linter.all false
set_option maxRecDepth 4000
set_option maxHeartbeats 1000000
set_option exponentiation.threshold 8000

def sgn (e : Int) : Int := if e = 0 then 0 else if e < 0 then -1 else 1
/-- A value is handed back, and R stays. -/
def PVal (u : Value) (R : List Own) (r : Value) (L' : List Own) (F' : List Fact) : Prop := r = u ∧ L' = R ∧ F' = []

theorem Sign_spec (x : Nat) (v : Int) (mx : Value) (R : List Own) (hx : oInt x v mx ∈ R) :
    Spec Tryz.prog 159 [ptr x] R [fDig mx v.natAbs] (PVal (.int .i64 (sgn v)) R) := by
  refine enter Tryz.func159 Tryz.ntmps159 rfl (by kernel_rfl) zCon rfl fun G => ?_
  refine c_dig (mag := mx) zMem fun d hd => ?_
  refine c_isList (v := mx) zMem fun hs1 => ?_
  all_goals ((try refine zR ?_) <;> (repeat' (with_reducible first | refine And.intro ?_ ?_ | intro _)))
  all_goals refine e_res rfl zRes _ [] (fun _ h => h) (fun _ h => h.apart) fsub_nil ⟨?_, rfl, rfl⟩
  all_goals (simp only [retVal, sgn]; congr 1)
  · have := hd.zero (by omega)
    rw [if_pos (by omega)]
  · have hn : ¬ (d.length : Int) = 0 := by assumption
    have := hd.pos (by omega)
    have hneg : v < 0 := by assumption
    rw [if_neg (by omega), if_pos hneg]
  · have hn : ¬ (d.length : Int) = 0 := by assumption
    have := hd.pos (by omega)
    have hneg : ¬ v < 0 := by assumption
    rw [if_neg (by omega), if_neg hneg]

theorem Abs_spec (z x : Nat) (v : Int) (n0 : Bool) (m0 mx : Value) (R : List Own) (hx : oInt x v mx ∈ oBig z n0 m0 :: R) (hv : v.natAbs < 4294967296 ^ 2000) :
    Spec Tryz.prog 232 [ptr z, ptr x] (oBig z n0 m0 :: R) [fDig mx v.natAbs] (PInt z (v.natAbs : Int) R) := by
  refine enter Tryz.func232 Tryz.ntmps232 rfl (by kernel_rfl) zCon rfl fun G => ?_
  refine c_dig (mag := mx) zMem fun d hd => ?_
  refine c_isList (v := mx) zMem fun hs1 => ?_
  have hl := hd.len hv
  all_goals ((try refine zS ?_) <;> (repeat' (with_reducible first | refine And.intro ?_ ?_ | intro _)))
  refine l_appendInts rfl rfl rfl rfl rfl zMem (fun _ => .head) (by simp [maxLen]; omega) (by omega) fun mr => ?_
  refine l_freezeInts (ik := .u32) (l := d) .head (by simp) ?_
  refine l_call rfl zEvs rfl (put_spec z n0 false m0 mr d hd.1) zTake zFsub ?_
  rintro _ L' F' ⟨mag', rfl, rfl, rfl⟩
  all_goals ((try refine zR ?_) <;> (repeat' (with_reducible first | refine And.intro ?_ ?_ | intro _)))
  rw [hd.2.2]
  exact e_res rfl zRes _ _ (fun _ h => h) (fun _ h => h.apart) (fsub_cons (.head _) fsub_nil) ⟨mag', rfl, rfl, rfl⟩

theorem or_apart64' (i : Nat) {c y : Int} (hc : 0 ≤ c ∧ c < (2 : Int) ^ i) (hi : c < 18446744073709551616) (hy : 0 ≤ y ∧ y < 18446744073709551616) (h : y % (2 : Int) ^ i = 0) : bits .or .u64 c y = c + y := by
  rw [u64_or c y hc.1 hi hy.1 hy.2]
  obtain ⟨a, rfl⟩ := Int.eq_ofNat_of_zero_le hc.1
  obtain ⟨e, rfl⟩ := Int.eq_ofNat_of_zero_le hy.1
  have h1 : a < 2 ^ i := by have := hc.2; exact_mod_cast this
  have h2 : e % 2 ^ i = 0 := by exact_mod_cast h
  have h3 : 2 ^ i * (e / 2 ^ i) = e := Nat.mul_div_cancel' (Nat.dvd_of_mod_eq_zero h2)
  have h4 := Nat.two_pow_add_eq_or_of_lt h1 (e / 2 ^ i)
  rw [h3] at h4
  simp only [Int.toNat_natCast]
  rw [Nat.or_comm, ← h4]; omega

theorem Int64_spec (x : Nat) (v : Int) (mx : Value) (R : List Own) (hx : oInt x v mx ∈ R) (hv : -9223372036854775808 ≤ v ∧ v ≤ 9223372036854775807) :
    Spec Tryz.prog 234 [ptr x] R [fDig mx v.natAbs] (PVal (.int .i64 v) R) := by
  refine enter Tryz.func234 Tryz.ntmps234 rfl (by kernel_rfl) zCon rfl fun G => ?_
  refine c_dig (mag := mx) zMem fun d hd => ?_
  refine c_isList (v := mx) zMem fun hs1 => ?_
  have hl := hd.len (k := 2) (by omega)
  all_goals ((try refine zR ?_) <;> (repeat' (with_reducible first | refine And.intro ?_ ?_ | intro _)))
  refine c_while (ι := { i : Nat // i ≤ d.length }) (κ := Unit) (fun i => [(11, .int .i64 (i.1 : Int)), (10, .int .i64 (d.length : Int)), (9, mx), (3, .int .u64 (vl 4294967296 (d.take i.1) : Int)), (0, ptr x)]) (fun _ => R) (fun _ => [fList 1 (rInt .u32) mx d]) (fun i => d.length - i.1)
    (fun _ => [(3, .int .u64 (v.natAbs : Int)), (0, ptr x)]) (fun _ => R) (fun _ => []) ⟨0, Nat.zero_le _⟩ (fun _ _ s => s.start zSub zRfl zFsub) ?_ ?_
  · rintro ⟨i, hi⟩
    dsimp only
    by_cases hil : i < d.length
    · have hxd := hd.1 _ (List.getElem_mem hil)
      have hi2 : i = 0 ∨ i = 1 := by omega
      have h1 := vl_take_succ 4294967296 d 0 (by omega)
      simp only [List.take_zero, Nat.pow_zero, Nat.one_mul, Nat.zero_add, vl] at h1
      have hx0 := hd.1 _ (List.getElem_mem (by omega : 0 < d.length))
      have hv1 : ((vl 4294967296 (d.take 1) : Nat) : Int) = d[0] := by rw [h1]; omega
      rcases hi2 with rfl | rfl
      · have ho : bits .or .u64 0 (d[0] * 2 ^ 0) = d[0] := by
          rw [u64_or 0 _ (by omega) (by omega) (by omega) (by omega)]
          simp; omega
        have hw : IntKind.u64.wrap (d[0] * 2 ^ 0) = d[0] * 2 ^ 0 := w_u64 (by omega)
        refine c_say (t := 11) (v' := .int .i64 0) rfl rfl ?_
        refine c_say (t := 3) (v' := .int .u64 0) rfl rfl ?_
        all_goals ((try refine zR ?_) <;> (repeat' (with_reducible first | refine And.intro ?_ ?_ | intro _)))
        all_goals (first | (exfalso; omega) | skip)
        refine l_shlS (s := 0) rfl rfl rfl rfl (by omega) hw ?_
        all_goals ((try refine zR ?_) <;> (repeat' (with_reducible first | refine And.intro ?_ ?_ | intro _)))
        exact e_again ⟨1, by omega⟩ (by dsimp only; omega) zSub rfl (fun _ h => h)
      · have ho : bits .or .u64 d[0] (d[1] * 4294967296) = d[0] + d[1] * 4294967296 := or_apart64' 32 (by omega) (by omega) (by omega) (by omega)
        refine c_say (t := 11) (v' := .int .i64 1) rfl rfl ?_
        refine c_say (t := 3) (v' := .int .u64 d[0]) rfl (congrArg _ hv1) ?_
        have h2 := vl_take_succ 4294967296 d 1 hil
        have hs : Value.int .u64 (d[0] + d[1] * 4294967296) = .int .u64 ((vl 4294967296 (d.take 2) : Nat) : Int) := by
          congr 1
          rw [h2]; omega
        all_goals ((try refine zR ?_) <;> (repeat' (with_reducible first | refine And.intro ?_ ?_ | intro _)))
        all_goals (first | (exfalso; omega) | skip)
        exact e_again ⟨2, by omega⟩ (by dsimp only; omega) zSub rfl (fun _ h => h)
    · have : i = d.length := by omega
      subst this
      all_goals ((try refine zR ?_) <;> (repeat' (with_reducible first | refine And.intro ?_ ?_ | intro _)))
      all_goals (first | (exfalso; omega) | skip)
      rw [List.take_length, hd.2.2]
      exact e_out () zSub rfl (fun _ h => by cases h)
  · intro _
    all_goals ((try refine zR ?_) <;> (repeat' (with_reducible first | refine And.intro ?_ ?_ | intro _)))
    all_goals (refine e_res rfl zRes _ [] (fun _ h => h) (fun _ h => h.apart) fsub_nil ⟨?_, rfl, rfl⟩; simp only [retVal]; congr 1)
    · have : v < 0 := by assumption
      rw [IntKind.wrap_i64]; omega
    · have : ¬ v < 0 := by assumption
      omega

theorem Rsh_spec (z x : Nat) (v : Int) (n0 : Bool) (m0 mx : Value) (R : List Own) (q s : Nat) (hs : s < 32) (hq : q ≤ 1000) (hx : oInt x v mx ∈ oBig z n0 m0 :: R) (hv : v.natAbs < 4294967296 ^ 1000) (h0 : 0 ≤ v) :
    Spec Tryz.prog 182 [ptr z, ptr x, .int .u64 ((32 * q + s : Nat) : Int)] (oBig z n0 m0 :: R) [fDig mx v.natAbs] (PInt z (v / 2 ^ (32 * q + s)) R) := by
  refine enter Tryz.func182 Tryz.ntmps182 rfl (by kernel_rfl) zCon rfl fun G => ?_
  refine c_dig (mag := mx) zMem fun d hd => ?_
  refine c_isList (v := mx) zMem fun hsl => ?_
  have hdl := hd.len hv
  have h1 : ((32 * q + s : Nat) : Int).tdiv 32 = (q : Int) := by rw [Int.tdiv_eq_ediv_of_nonneg (by omega)]; omega
  have h2 : ((32 * q + s : Nat) : Int).tmod 32 = (s : Int) := by rw [Int.tmod_eq_emod_of_nonneg (by omega)]; omega
  have hneg : decide (v < 0) = false := decide_eq_false (by omega)
  have hx' : oBig x false mx ∈ oBig z n0 m0 :: R := by rw [← hneg]; exact hx
  clear hx
  all_goals ((try refine zR ?_) <;> (repeat' (with_reducible first | refine And.intro ?_ ?_ | intro _)))
  rename_i r0
  refine c_while (ι := { p : Nat × Value × List Int // q ≤ p.1 ∧ p.2.2 ++ rshl s (d.drop p.1) = rshl s (d.drop q) }) (κ := Value)
    (fun p => [(10, .int .i64 (p.1.1 : Int)), (8, p.1.2.1), (7, .bool false), (2, .int .u64 ((32 * q + s : Nat) : Int)), (1, ptr x), (0, ptr z)]) (fun p => .row p.1.2.1 220 1 p.1.2.2.length (p.1.2.2.map (Value.int .u32)) :: oBig z n0 m0 :: R) (fun _ => [fList 1 (rInt .u32) mx d]) (fun p => d.length - p.1.1)
    (fun r => [(8, r), (7, .bool false), (1, ptr x), (0, ptr z)]) (fun r => .row r 220 1 (rshl s (d.drop q)).length ((rshl s (d.drop q)).map (Value.int .u32)) :: oBig z n0 m0 :: R) (fun _ => []) ⟨(q, r0, []), Nat.le_refl _, rfl⟩ (fun _ _ s => s.start zSub zRfl zFsub) ?_ ?_
  · rintro ⟨⟨i, r, o⟩, hqi, ho⟩
    dsimp only at hqi ho ⊢
    have hol : o.length ≤ 1000 := by
      have := congrArg List.length ho
      rw [List.length_append, rshl_len, rshl_len] at this
      simp at this
      omega
    by_cases hil : i < d.length
    · have hxd := hd.1 _ (List.getElem_mem hil)
      have hyd := InR.headD (hd.1.drop (i + 1)) (by omega)
      all_goals ((try refine zS ?_) <;> (repeat' (with_reducible first | refine And.intro ?_ ?_ | intro _)))
      refine c_dec rfl (fun _ => ?_) (fun h => absurd h (by omega))
      all_goals ((try refine zS ?_) <;> (repeat' (with_reducible first | refine And.intro ?_ ?_ | intro _)))
      refine c_mid (κ := Unit) (fun _ => [(11, .int .u64 (d[i] + (d.drop (i + 1)).headD 0 * 4294967296)), (10, .int .i64 (i : Int)), (8, r), (7, .bool false), (2, .int .u64 ((32 * q + s : Nat) : Int)), (1, ptr x), (0, ptr z)]) (fun _ => .row r 220 1 o.length (o.map (Value.int .u32)) :: oBig z n0 m0 :: R) (fun _ => [fList 1 (rInt .u32) mx d]) ?_ ?_
      · by_cases hi1 : i + 1 < d.length
        · have hy1 := hd.1 _ (List.getElem_mem hi1)
          have hh : (d.drop (i + 1)).headD 0 = d[i + 1] := by rw [List.drop_eq_getElem_cons hi1]; rfl
          have hget : d[i + 1]? = some d[i + 1] := List.getElem?_eq_getElem hi1
          rw [hh]
          revert hy1 hget
          generalize d[i + 1] = y
          intro hy1 hget
          have hor : bits .or .u64 d[i] (y * 4294967296) = d[i] + y * 4294967296 := or_apart64' 32 (by omega) (by omega) (by omega) (by omega)
          all_goals ((try refine zR ?_) <;> (repeat' (with_reducible first | refine And.intro ?_ ?_ | intro _)))
          all_goals (first | (exfalso; omega) | skip)
          exact e_out () zSub rfl (fun _ h => h)
        · have hh : (d.drop (i + 1)).headD 0 = 0 := by rw [List.drop_eq_nil_of_le (by omega)]; rfl
          rw [hh]
          all_goals ((try refine zR ?_) <;> (repeat' (with_reducible first | refine And.intro ?_ ?_ | intro _)))
          all_goals (first | (exfalso; omega) | skip)
          exact e_out () zSub rfl (fun _ h => h)
      · intro _
        all_goals ((try refine zR ?_) <;> (repeat' (with_reducible first | refine And.intro ?_ ?_ | intro _)))
        rename_i r'
        refine e_again ⟨(i + 1, r', o ++ [(d[i] + (d.drop (i + 1)).headD 0 * 4294967296) / 2 ^ s % 4294967296]), by dsimp only; omega, ?_⟩ (by dsimp only; omega) zSub (by simp) zFsub
        dsimp only
        rw [← ho, List.append_assoc, List.drop_eq_getElem_cons hil, rshl]
        rfl
    · all_goals ((try refine zR ?_) <;> (repeat' (with_reducible first | refine And.intro ?_ ?_ | intro _)))
      all_goals (first | (exfalso; omega) | skip)
      have hnil : d.drop i = [] := List.drop_eq_nil_of_le (by omega)
      rw [hnil, rshl, List.append_nil] at ho
      subst ho
      exact e_out r zSub rfl (fun _ h => by cases h)
  · intro r
    have hr := rshl_range s (d.drop q)
    have hvr := vl_rshl s (by omega) (d.drop q) (hd.1.drop q)
    rw [vl_drop_div _ (by omega) _ hd.1, hd.2.2, show (4294967296 : Nat) = 2 ^ 32 by decide, ← Nat.pow_mul, Nat.div_div_eq_div_mul, ← Nat.pow_add] at hvr
    revert hr hvr
    generalize rshl s (d.drop q) = o
    intro hr hvr
    all_goals ((try refine zR ?_) <;> (repeat' (with_reducible first | refine And.intro ?_ ?_ | intro _)))
    refine l_freezeInts (ik := .u32) (l := o) .head rfl ?_
    refine l_call rfl zEvs rfl (put_spec z n0 false m0 r o hr) zTake zFsub ?_
    rintro _ L' F' ⟨mag', rfl, rfl, rfl⟩
    all_goals ((try refine zR ?_) <;> (repeat' (with_reducible first | refine And.intro ?_ ?_ | intro _)))
    have e : sv false (vl 4294967296 o) = v / 2 ^ (32 * q + s) := by
      rw [show vl 4294967296 o = v.natAbs / 2 ^ (32 * q + s) from hvr]
      unfold sv
      obtain ⟨n, rfl⟩ := Int.eq_ofNat_of_zero_le h0
      simp
    rw [e]
    exact e_res rfl zRes _ _ (fun _ h => h) (fun _ h => h.apart) (fsub_cons (.head _) fsub_nil) ⟨mag', rfl, rfl, rfl⟩
end Go.Proofs.YtbllgmcpebifhaaGreatDoor.K
end
