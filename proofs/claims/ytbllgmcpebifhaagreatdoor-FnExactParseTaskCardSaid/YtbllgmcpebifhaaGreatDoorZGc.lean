/- Large numbers with their sign: sums and differences. -/
import Derived.Test.YtbllgmcpebifhaaGreatDoorZGa
namespace Go.Proofs.YtbllgmcpebifhaaGreatDoor.K
open Go Go.RowKit
set_option linter.all false
set_option maxRecDepth 4000
set_option maxHeartbeats 1000000
set_option exponentiation.threshold 8000

theorem vl_drop (b : Nat) (l : List Int) (i : Nat) (hi : i < l.length) : vl b (l.drop i) = l[i].toNat + b * vl b (l.drop (i + 1)) := by
  rw [List.drop_eq_getElem_cons hi, vl]
theorem addDigits_spec (va vb : Value) (da db : List Int) (ha : InR 4294967296 da) (hb : InR 4294967296 db) (hla : da.length ≤ 1000) (hlb : db.length ≤ 1000) : Spec Tryz.prog 236 [va, vb] [] [fList 1 (rInt .u32) va da, fList 1 (rInt .u32) vb db]
    (fun r L' F' => ∃ ds, InR 4294967296 ds ∧ vl 4294967296 ds = vl 4294967296 da + vl 4294967296 db ∧ L' = [] ∧ F' = [fList 1 (rInt .u32) r ds]) := by
  refine enter Tryz.func236 Tryz.ntmps236 rfl (by kernel_rfl) zCon rfl fun G => ?_
  all_goals ((try refine zS ?_) <;> (repeat' (with_reducible first | refine And.intro ?_ ?_ | intro _)))
  refine c_mid (κ := { p : (Value × List Int) × Value × List Int // InR 4294967296 p.1.2 ∧ InR 4294967296 p.2.2 ∧ p.1.2.length ≤ 1000 ∧ p.2.2.length ≤ p.1.2.length ∧ vl 4294967296 p.1.2 + vl 4294967296 p.2.2 = vl 4294967296 da + vl 4294967296 db }) (fun p => [(1, p.1.2.1), (0, p.1.1.1)]) (fun _ => []) (fun p => [fList 1 (rInt .u32) p.1.1.1 p.1.1.2, fList 1 (rInt .u32) p.1.2.1 p.1.2.2]) ?_ ?_
  · all_goals ((try refine zR ?_) <;> (repeat' (with_reducible first | refine And.intro ?_ ?_ | intro _)))
    · have hlt : (da.length : Int) < db.length := by assumption
      exact e_out ⟨((vb, db), (va, da)), hb, ha, hlb, by dsimp only; omega, by dsimp only; omega⟩ zSub rfl zFsub
    · have hlt : ¬ (da.length : Int) < db.length := by assumption
      exact e_out ⟨((va, da), (vb, db)), ha, hb, hla, by dsimp only; omega, rfl⟩ zSub rfl zFsub
  rintro ⟨⟨⟨v1, a⟩, ⟨v2, b⟩⟩, h1, h2, hl1, hl2, hsum⟩
  dsimp only at h1 h2 hl1 hl2 hsum ⊢
  rw [← hsum]
  all_goals ((try refine zR ?_) <;> (repeat' (with_reducible first | refine And.intro ?_ ?_ | intro _)))
  rename_i r _
  refine c_while (ι := { s : Nat × List Int × Int // s.1 ≤ a.length ∧ s.2.1.length = s.1 ∧ InR 4294967296 s.2.1 ∧ (0 ≤ s.2.2 ∧ s.2.2 ≤ 1) ∧ vl 4294967296 s.2.1 + 4294967296 ^ s.1 * s.2.2.toNat = vl 4294967296 (a.take s.1) + vl 4294967296 (b.take s.1) }) (κ := { p : List Int × Int // InR 4294967296 p.1 ∧ p.1.length = a.length ∧ (0 ≤ p.2 ∧ p.2 ≤ 1) ∧ vl 4294967296 p.1 + 4294967296 ^ a.length * p.2.toNat = vl 4294967296 a + vl 4294967296 b })
    (fun s => [(21, .int .i64 (s.1.1 : Int)), (20, .int .i64 (a.length : Int)), (6, .int .u64 s.1.2.2), (5, r), (1, v2), (0, v1)]) (fun s => [.row r 220 1 (a.length + 1) ((s.1.2.1 ++ List.replicate (a.length + 1 - s.1.1) 0).map (Value.int .u32))]) (fun _ => [fList 1 (rInt .u32) v1 a, fList 1 (rInt .u32) v2 b]) (fun s => a.length - s.1.1)
    (fun p => [(6, .int .u64 p.1.2), (5, r), (1, v2), (0, v1)]) (fun p => [.row r 220 1 (a.length + 1) ((p.1.1 ++ [0]).map (Value.int .u32))]) (fun _ => [fList 1 (rInt .u32) v1 a]) ⟨(0, [], 0), by simp [vl, InR]⟩ (fun _ _ s => s.start zSub zRfl zFsub) ?_ ?_
  · rintro ⟨⟨i, P, c⟩, hi, hP, hR, hc, hv⟩
    dsimp only at hi hP hR hc hv ⊢
    by_cases hil : i < a.length
    · have hx := h1 _ (List.getElem_mem hil)
      obtain ⟨y, hy, hyv, hyt⟩ : ∃ y : Int, (0 ≤ y ∧ y < 4294967296) ∧ ((∀ h : i < b.length, b[i] = y) ∧ (¬ i < b.length → y = 0)) ∧ vl 4294967296 (b.take (i + 1)) = vl 4294967296 (b.take i) + 4294967296 ^ i * y.toNat := by
        by_cases hib : i < b.length
        · exact ⟨b[i], h2 _ (List.getElem_mem hib), ⟨fun _ => rfl, fun h => absurd hib h⟩, vl_take_succ _ _ _ hib⟩
        · exact ⟨0, by omega, ⟨fun h => absurd h hib, fun _ => rfl⟩, by rw [List.take_of_length_le (by omega), List.take_of_length_le (by omega)]; simp⟩
      have hlen : (P ++ List.replicate (a.length + 1 - i) 0).length = a.length + 1 := by simp; omega
      all_goals ((try refine zS ?_) <;> (repeat' (with_reducible first | refine And.intro ?_ ?_ | intro _)))
      refine c_dec rfl (fun _ => ?_) (fun h => absurd h (by omega))
      all_goals ((try refine zS ?_) <;> (repeat' (with_reducible first | refine And.intro ?_ ?_ | intro _)))
      refine c_mid (κ := Unit) (fun _ => [(6, .int .u64 (c + a[i] + y)), (7, .int .i64 (i : Int)), (21, .int .i64 (i : Int)), (20, .int .i64 (a.length : Int)), (5, r), (1, v2), (0, v1)]) (fun _ => [.row r 220 1 (a.length + 1) ((P ++ List.replicate (a.length + 1 - i) 0).map (Value.int .u32))]) (fun _ => [fList 1 (rInt .u32) v1 a, fList 1 (rInt .u32) v2 b]) ?_ ?_
      · by_cases hib : i < b.length
        · have hyb := hyv.1 hib
          have hget : b[i]? = some y := by rw [List.getElem?_eq_getElem hib, hyb]
          all_goals ((try refine zR ?_) <;> (repeat' (with_reducible first | refine And.intro ?_ ?_ | intro _)))
          all_goals (first | (exfalso; omega) | skip)
          exact e_out () zSub rfl (fun _ h => h)
        · have hy0 := hyv.2 hib
          all_goals ((try refine zR ?_) <;> (repeat' (with_reducible first | refine And.intro ?_ ?_ | intro _)))
          all_goals (first | (exfalso; omega) | skip)
          exact e_out () zSub rfl (fun _ h => h)
      · intro _
        all_goals ((try refine zR ?_) <;> (repeat' (with_reducible first | refine And.intro ?_ ?_ | intro _)))
        refine e_again ⟨(i + 1, P ++ [(c + a[i] + y) % 4294967296], (c + a[i] + y) / 4294967296), by omega, by simp [hP], hR.snoc (by omega), by dsimp only; omega, ?_⟩ (by dsimp only; omega) zSub ?_ (fun _ h => h)
        · have h3 := add_step (4294967296 ^ i) (vl 4294967296 (a.take i)) (vl 4294967296 (b.take i)) (vl 4294967296 P) c.toNat a[i].toNat y.toNat hv
          dsimp only
          rw [vl_snoc, hP, vl_take_succ _ _ _ hil, hyt, ← h3, Nat.pow_succ]
          have e1 : ((c + a[i] + y) % 4294967296).toNat = (c.toNat + a[i].toNat + y.toNat) % 4294967296 := by omega
          have e2 : ((c + a[i] + y) / 4294967296).toNat = (c.toNat + a[i].toNat + y.toNat) / 4294967296 := by omega
          rw [e1, e2]
        · dsimp only
          have e0 : a.length + 1 - i = (a.length + 1 - (i + 1)) + 1 := by omega
          congr 3
          rw [e0, List.replicate_succ]
          subst hP
          rw [row_set]; simp
    · all_goals ((try refine zR ?_) <;> (repeat' (with_reducible first | refine And.intro ?_ ?_ | intro _)))
      all_goals (first | (exfalso; omega) | skip)
      have hi' : i = a.length := by omega
      subst hi'
      refine e_out ⟨(P, c), hR, hP, hc, ?_⟩ zSub (by simp) zFsub
      dsimp only
      rw [hv, List.take_length, List.take_of_length_le hl2]
  · rintro ⟨⟨p, c⟩, hp, hpl, hc, hpv⟩
    dsimp only at hp hpl hc hpv ⊢
    have hlen : (p ++ [0]).length = a.length + 1 := by simp [hpl]
    all_goals ((try refine zR ?_) <;> (repeat' (with_reducible first | refine And.intro ?_ ?_ | intro _)))
    have hset : (p ++ [0]).set a.length c = p ++ [c] := by rw [← hpl]; exact row_set p 0 c []
    rw [hset]
    refine ends_freezeInts .head rfl ?_
    refine e_resT rfl zRes .nil (fsub_cons (.head _) fsub_nil) ⟨p ++ [c], hp.snoc (by omega), ?_, rfl, rfl⟩
    rw [vl_snoc, hpl, hpv]
theorem vl_split (b : Nat) (a : List Int) (k : Nat) (hk : k < a.length) : vl b a = vl b (a.take k) + b ^ k * (a[k].toNat + b * vl b (a.drop (k + 1))) := by
  conv => lhs; rw [← List.take_append_drop k a]
  rw [vl_append, List.length_take, Nat.min_eq_left (by omega), vl_drop b a k hk]
theorem cmp_at (B : Nat) (a b : List Int) (k : Nat) (ha : InR B a) (hb : InR B b) (hk : k < a.length) (hkb : k < b.length) (hd : a.drop (k + 1) = b.drop (k + 1)) (hlt : a[k] < b[k]) : vl B a < vl B b := by
  have h1 := vl_split B a k hk
  have h2 := vl_split B b k hkb
  rw [hd] at h1
  have h3 := vl_lt B _ (ha.take k)
  rw [List.length_take, Nat.min_eq_left (by omega)] at h3
  have p1 := ha _ (List.getElem_mem hk)
  have p2 := hb _ (List.getElem_mem hkb)
  have h4 : B ^ k * (a[k].toNat + B * vl B (b.drop (k + 1)) + 1) ≤ B ^ k * (b[k].toNat + B * vl B (b.drop (k + 1))) := Nat.mul_le_mul_left _ (by omega)
  rw [Nat.mul_add, Nat.mul_one] at h4
  omega
theorem Dig.lt_of_len {a b : List Int} {x y : Nat} (ha : Dig a x) (hb : Dig b y) (h : a.length < b.length) : x < y := by
  rcases Nat.lt_or_ge x y with h' | h'
  · exact h'
  · exfalso
    have h1 := vl_lt _ _ ha.1
    rw [ha.2.2] at h1
    have := hb.len (Nat.lt_of_le_of_lt h' h1)
    omega

theorem cmpDigits_spec (va vb : Value) (a b : List Int) (x y : Nat) (ha : Dig a x) (hb : Dig b y) : Spec Tryz.prog 230 [va, vb] [] [fList 1 (rInt .u32) va a, fList 1 (rInt .u32) vb b]
    (Gives (.int .i64 (if x < y then -1 else if x = y then 0 else 1))) := by
  refine enter Tryz.func230 Tryz.ntmps230 rfl (by kernel_rfl) zCon rfl fun G => ?_
  all_goals ((try refine zS ?_) <;> (repeat' (with_reducible first | refine And.intro ?_ ?_ | intro _)))
  refine c_dec rfl (fun hne => ?_) (fun heq => ?_)
  · all_goals ((try refine zR ?_) <;> (repeat' (with_reducible first | refine And.intro ?_ ?_ | intro _)))
    · have h1 : (a.length : Int) < b.length := by assumption
      have h2 := ha.lt_of_len hb (by omega)
      refine e_gives rfl zRes ?_
      simp only [retVal, h2, if_true]
    · have h1 : ¬ (a.length : Int) < b.length := by assumption
      have h2 := hb.lt_of_len ha (by omega)
      have h3 : ¬ x < y := by omega
      have h4 : ¬ x = y := by omega
      refine e_gives rfl zRes ?_
      simp only [retVal, h3, h4, if_false]
  have hlen : a.length = b.length := by omega
  all_goals ((try refine zR ?_) <;> (repeat' (with_reducible first | refine And.intro ?_ ?_ | intro _)))
  refine c_while (ι := { i : Nat // i ≤ a.length ∧ a.drop i = b.drop i }) (κ := { _u : Unit // x = y }) (fun i => [(5, .int .i64 ((i.1 : Int) - 1)), (1, vb), (0, va)]) (fun _ => []) (fun _ => [fList 1 (rInt .u32) va a, fList 1 (rInt .u32) vb b]) (fun i => i.1)
    (fun _ => []) (fun _ => []) (fun _ => []) ⟨a.length, Nat.le_refl _, by rw [List.drop_length, hlen, List.drop_length]⟩ (fun _ _ s => s.start zSub zRfl zFsub) ?_ ?_
  · rintro ⟨i, hi, hd⟩
    dsimp only
    rcases Nat.eq_zero_or_pos i with hi0 | hi0
    · subst hi0
      have hab : a = b := by simpa using hd
      have hxy : x = y := by rw [← ha.2.2, ← hb.2.2, hab]
      have h3 : ¬ x < y := by omega
      all_goals (((try refine zD ?_) <;> (repeat' (with_reducible first | refine And.intro ?_ ?_ | intro _))) <;> (repeat' ((first | refine c_draw ([8], []) [] [0, 1, 2, 3, 4, 5, 6, 7, 8] (by kernel_rfl) (by kernel_rfl) ?_) <;> ((try refine zD ?_) <;> (repeat' (with_reducible first | refine And.intro ?_ ?_ | intro _))))))
      exact e_out ⟨(), hxy⟩ zSub rfl zFsub
    · obtain ⟨k, rfl⟩ : ∃ k, i = k + 1 := ⟨i - 1, by omega⟩
      have hk : k < a.length := by omega
      have hkb : k < b.length := by omega
      refine c_say (t := 5) (v' := .int .i64 (k : Int)) rfl (congrArg _ (by omega)) ?_
      all_goals (((try refine zD ?_) <;> (repeat' (with_reducible first | refine And.intro ?_ ?_ | intro _))) <;> (repeat' ((first | refine c_draw ([8], []) [] [0, 1, 2, 3, 4, 5, 6, 7, 8] (by kernel_rfl) (by kernel_rfl) ?_) <;> ((try refine zD ?_) <;> (repeat' (with_reducible first | refine And.intro ?_ ?_ | intro _))))))
      · have hlt : a[k] < b[k] := by assumption
        have h2 := cmp_at _ a b k ha.1 hb.1 hk hkb hd hlt
        rw [ha.2.2, hb.2.2] at h2
        refine e_gives rfl zRes ?_
        simp only [retVal, h2, if_true]
      · have hne : a[k] ≠ b[k] := by assumption
        have hnl : ¬ a[k] < b[k] := by assumption
        have h2 := cmp_at _ b a k hb.1 ha.1 hkb hk hd.symm (by omega)
        rw [ha.2.2, hb.2.2] at h2
        have h3 : ¬ x < y := by omega
        have h4 : ¬ x = y := by omega
        refine e_gives rfl zRes ?_
        simp only [retVal, h3, h4, if_false]
      · have he : ¬ a[k] ≠ b[k] := by assumption
        refine e_again ⟨k, by omega, ?_⟩ (by dsimp only; omega) zSub rfl (fun _ h => h)
        rw [List.drop_eq_getElem_cons hk, List.drop_eq_getElem_cons hkb, hd, Decidable.of_not_not he]
  · rintro ⟨_, hxy⟩
    have h3 : ¬ x < y := by omega
    all_goals ((try refine zR ?_) <;> (repeat' (with_reducible first | refine And.intro ?_ ?_ | intro _)))
    refine e_gives rfl zRes ?_
    simp only [retVal, h3, hxy, if_true, if_false, Nat.lt_irrefl]

theorem subDigits_spec (va vb : Value) (a b : List Int) (ha : InR 4294967296 a) (hb : InR 4294967296 b) (hl : b.length ≤ a.length) (hla : a.length ≤ 1000) (hle : vl 4294967296 b ≤ vl 4294967296 a) : Spec Tryz.prog 268 [va, vb] [] [fList 1 (rInt .u32) va a, fList 1 (rInt .u32) vb b]
    (fun r L' F' => ∃ ds, InR 4294967296 ds ∧ vl 4294967296 ds = vl 4294967296 a - vl 4294967296 b ∧ L' = [] ∧ F' = [fList 1 (rInt .u32) r ds]) := by
  refine enter Tryz.func268 Tryz.ntmps268 rfl (by kernel_rfl) zCon rfl fun G => ?_
  all_goals ((try refine zR ?_) <;> (repeat' (with_reducible first | refine And.intro ?_ ?_ | intro _)))
  rename_i r _
  refine c_while (ι := { s : Nat × List Int × Int // s.1 ≤ a.length ∧ s.2.1.length = s.1 ∧ InR 4294967296 s.2.1 ∧ (0 ≤ s.2.2 ∧ s.2.2 ≤ 1) ∧ vl 4294967296 s.2.1 + vl 4294967296 (b.take s.1) = vl 4294967296 (a.take s.1) + 4294967296 ^ s.1 * s.2.2.toNat }) (κ := { p : List Int // InR 4294967296 p ∧ vl 4294967296 p = vl 4294967296 a - vl 4294967296 b })
    (fun s => [(14, .int .i64 (s.1.1 : Int)), (13, .int .i64 (a.length : Int)), (6, .int .u64 s.1.2.2), (5, r), (1, vb), (0, va)]) (fun s => [.row r 220 1 a.length ((s.1.2.1 ++ List.replicate (a.length - s.1.1) 0).map (Value.int .u32))]) (fun _ => [fList 1 (rInt .u32) va a, fList 1 (rInt .u32) vb b]) (fun s => a.length - s.1.1)
    (fun p => [(5, r)]) (fun p => [.row r 220 1 a.length (p.1.map (Value.int .u32))]) (fun _ => []) ⟨(0, [], 0), by simp [vl, InR]⟩ (fun _ _ s => s.start zSub zRfl zFsub) ?_ ?_
  · rintro ⟨⟨i, P, c⟩, hi, hP, hR, hc, hv⟩
    dsimp only at hi hP hR hc hv ⊢
    by_cases hil : i < a.length
    · have hx := ha _ (List.getElem_mem hil)
      obtain ⟨y, hy, hyv, hyt⟩ : ∃ y : Int, (0 ≤ y ∧ y < 4294967296) ∧ ((∀ h : i < b.length, b[i] = y) ∧ (¬ i < b.length → y = 0)) ∧ vl 4294967296 (b.take (i + 1)) = vl 4294967296 (b.take i) + 4294967296 ^ i * y.toNat := by
        by_cases hib : i < b.length
        · exact ⟨b[i], hb _ (List.getElem_mem hib), ⟨fun _ => rfl, fun h => absurd hib h⟩, vl_take_succ _ _ _ hib⟩
        · exact ⟨0, by omega, ⟨fun h => absurd h hib, fun _ => rfl⟩, by rw [List.take_of_length_le (by omega), List.take_of_length_le (by omega)]; simp⟩
      have hlen : (P ++ List.replicate (a.length - i) 0).length = a.length := by simp; omega
      all_goals ((try refine zS ?_) <;> (repeat' (with_reducible first | refine And.intro ?_ ?_ | intro _)))
      refine c_dec rfl (fun _ => ?_) (fun h => absurd h (by omega))
      all_goals ((try refine zS ?_) <;> (repeat' (with_reducible first | refine And.intro ?_ ?_ | intro _)))
      refine c_mid (κ := Unit) (fun _ => [(8, .int .u64 ((a[i] - c - y) % 18446744073709551616)), (7, .int .i64 (i : Int)), (14, .int .i64 (i : Int)), (13, .int .i64 (a.length : Int)), (5, r), (1, vb), (0, va)]) (fun _ => [.row r 220 1 a.length ((P ++ List.replicate (a.length - i) 0).map (Value.int .u32))]) (fun _ => [fList 1 (rInt .u32) va a, fList 1 (rInt .u32) vb b]) ?_ ?_
      · by_cases hib : i < b.length
        · have hyb := hyv.1 hib
          have hget : b[i]? = some y := by rw [List.getElem?_eq_getElem hib, hyb]
          all_goals ((try refine zR ?_) <;> (repeat' (with_reducible first | refine And.intro ?_ ?_ | intro _)))
          all_goals (first | (exfalso; omega) | skip)
          exact e_out () zSub rfl (fun _ h => h)
        · have hy0 := hyv.2 hib
          all_goals ((try refine zR ?_) <;> (repeat' (with_reducible first | refine And.intro ?_ ?_ | intro _)))
          all_goals (first | (exfalso; omega) | skip)
          exact e_out () zSub rfl (fun _ h => h)
      · intro _
        all_goals ((try refine zR ?_) <;> (repeat' (with_reducible first | refine And.intro ?_ ?_ | intro _)))
        have e1 : (a[i] - c - y) % 18446744073709551616 % 4294967296 = a[i] - c - y ∧ (a[i] - c - y) % 18446744073709551616 / 9223372036854775808 = 0 ∨ (a[i] - c - y) % 18446744073709551616 % 4294967296 = a[i] - c - y + 4294967296 ∧ (a[i] - c - y) % 18446744073709551616 / 9223372036854775808 = 1 := by omega
        refine e_again ⟨(i + 1, P ++ [(a[i] - c - y) % 18446744073709551616 % 4294967296], (a[i] - c - y) % 18446744073709551616 / 9223372036854775808), by omega, by simp [hP], hR.snoc (by omega), by dsimp only; omega, ?_⟩ (by dsimp only; omega) zSub ?_ (fun _ h => h)
        · dsimp only
          rw [vl_snoc, hP, vl_take_succ _ _ _ hil, hyt, Nat.pow_succ]
          exact sub_step 4294967296 (4294967296 ^ i) _ _ _ _ _ c.toNat _ _ hv (by omega)
        · dsimp only
          have e0 : a.length - i = (a.length - (i + 1)) + 1 := by omega
          congr 3
          rw [e0, List.replicate_succ]
          subst hP
          rw [row_set]; simp
    · all_goals ((try refine zR ?_) <;> (repeat' (with_reducible first | refine And.intro ?_ ?_ | intro _)))
      all_goals (first | (exfalso; omega) | skip)
      have hi' : i = a.length := by omega
      subst hi'
      rw [List.take_length, List.take_of_length_le hl] at hv
      have hp := vl_lt _ _ hR
      rw [hP] at hp
      have hc0 : c.toNat = 0 := by
        rcases Nat.eq_zero_or_pos c.toNat with h | h
        · exact h
        · exfalso
          have : c.toNat = 1 := by omega
          rw [this] at hv
          omega
      rw [hc0] at hv
      exact e_out ⟨P, hR, by omega⟩ zSub (by simp) zFsub
  · rintro ⟨p, hp, hpv⟩
    dsimp only at hp hpv ⊢
    all_goals ((try refine zR ?_) <;> (repeat' (with_reducible first | refine And.intro ?_ ?_ | intro _)))
    refine ends_freezeInts .head rfl ?_
    exact e_resT rfl zRes .nil (fsub_cons (.head _) fsub_nil) ⟨p, hp, hpv, rfl, rfl⟩

theorem Dig.le_len {a b : List Int} {x y : Nat} (ha : Dig a x) (hb : Dig b y) (h : y ≤ x) : b.length ≤ a.length := by
  rcases Nat.lt_or_ge a.length b.length with h1 | h1
  · have := ha.lt_of_len hb h1; omega
  · exact h1

theorem sum_spec (z x y : Nat) (vx vy : Int) (n0 neg : Bool) (m0 mx my : Value) (R : List Own) (hx : oInt x vx mx ∈ oBig z n0 m0 :: R) (hy : oInt y vy my ∈ oBig z n0 m0 :: R) (hvx : vx.natAbs < 4294967296 ^ 900) (hvy : vy.natAbs < 4294967296 ^ 900) :
    Spec Tryz.prog 225 [ptr z, ptr x, ptr y, .bool neg] (oBig z n0 m0 :: R) [fDig mx vx.natAbs, fDig my vy.natAbs] (PInt z (vx + sv neg vy.natAbs) R) := by
  refine enter Tryz.func225 Tryz.ntmps225 rfl (by kernel_rfl) zCon rfl fun G => ?_
  refine c_dig (mag := mx) zMem fun a ha => ?_
  refine c_dig (mag := my) zMem fun b hb => ?_
  refine c_isList (v := mx) zMem fun hs1 => ?_
  refine c_isList (v := my) zMem fun hs2 => ?_
  have hla := ha.len hvx
  have hlb := hb.len hvy
  have hcmp := cmpDigits_spec mx my a b _ _ ha hb
  all_goals ((try refine zS ?_) <;> (repeat' (with_reducible first | refine And.intro ?_ ?_ | intro _)))
  refine c_dec rfl (fun hn => ?_) (fun hn => ?_)
  · all_goals ((try refine zS ?_) <;> (repeat' (with_reducible first | refine And.intro ?_ ?_ | intro _)))
    refine c_draw ([11, 12], []) [oInt x vx mx, oInt y vy my] [0, 1, 2, 3, 4, 5, 6, 7, 8, 9, 10, 11, 12] (by kernel_rfl) (by kernel_rfl) ?_
    all_goals ((try refine zD ?_) <;> (repeat' (with_reducible first | refine And.intro ?_ ?_ | intro _)))
    refine l_call rfl zEvs rfl (addDigits_spec mx my a b ha.1 hb.1 (by omega) (by omega)) zTake zFsub ?_
    rintro mr L' F' ⟨ds, hds, hv, rfl, rfl⟩
    all_goals ((try refine zD ?_) <;> (repeat' (with_reducible first | refine And.intro ?_ ?_ | intro _)))
    refine l_call rfl zEvs rfl (put_spec z n0 neg m0 mr ds hds) zTake zFsub ?_
    rintro _ L' F' ⟨mag', rfl, rfl, rfl⟩
    all_goals ((try refine zD ?_) <;> (repeat' (with_reducible first | refine And.intro ?_ ?_ | intro _)))
    have e : sv neg (vl 4294967296 ds) = vx + sv neg vy.natAbs := by
      rw [hv, ha.2.2, hb.2.2]
      conv => rhs; rw [← sv_abs_eq vx, hn]
      unfold sv; cases neg <;> simp <;> omega
    rw [e]
    exact e_res rfl zRes _ _ (fun _ h => h) (fun _ h => h.apart) (fsub_cons (.head _) fsub_nil) ⟨mag', rfl, rfl, rfl⟩
  · all_goals ((try refine zS ?_) <;> (repeat' (with_reducible first | refine And.intro ?_ ?_ | intro _)))
    refine c_draw ([10], []) [oInt x vx mx, oInt y vy my] [0, 1, 2, 3, 4, 5, 6, 7, 8, 9, 10] (by kernel_rfl) (by kernel_rfl) ?_
    all_goals (((try refine zD ?_) <;> (repeat' (with_reducible first | refine And.intro ?_ ?_ | intro _))) <;> (repeat' ((first | ((with_reducible apply l_callP); exact rfl; exact zEvs; exact rfl; (with_reducible apply hcmp); (case hF => exact zFsub); (try any_goals (refine propId ?_; omega)))) <;> ((try refine zD ?_) <;> (repeat' (with_reducible first | refine And.intro ?_ ?_ | intro _))))))
    · have hge : vy.natAbs ≤ vx.natAbs := by
        have h0 : 0 ≤ (if vx.natAbs < vy.natAbs then (-1 : Int) else if vx.natAbs = vy.natAbs then 0 else 1) := by assumption
        rcases Nat.lt_or_ge vx.natAbs vy.natAbs with h | h
        · rw [if_pos h] at h0; omega
        · exact h
      refine c_draw ([14, 15], []) [oInt x vx mx, oInt y vy my] [0, 1, 2, 3, 4, 5, 6, 7, 8, 9, 10, 11, 12, 13, 14, 15] (by kernel_rfl) (by kernel_rfl) ?_
      all_goals ((try refine zD ?_) <;> (repeat' (with_reducible first | refine And.intro ?_ ?_ | intro _)))
      refine l_call rfl zEvs rfl (subDigits_spec mx my a b ha.1 hb.1 (ha.le_len hb hge) (by omega) (by rw [ha.2.2, hb.2.2]; exact hge)) zTake zFsub ?_
      rintro mr L' F' ⟨ds, hds, hv, rfl, rfl⟩
      all_goals ((try refine zD ?_) <;> (repeat' (with_reducible first | refine And.intro ?_ ?_ | intro _)))
      refine l_call rfl zEvs rfl (put_spec z n0 (decide (vx < 0)) m0 mr ds hds) zTake zFsub ?_
      rintro _ L' F' ⟨mag', rfl, rfl, rfl⟩
      all_goals ((try refine zD ?_) <;> (repeat' (with_reducible first | refine And.intro ?_ ?_ | intro _)))
      have e : sv (decide (vx < 0)) (vl 4294967296 ds) = vx + sv neg vy.natAbs := by
        rw [hv, ha.2.2, hb.2.2]
        unfold sv
        by_cases h : vx < 0 <;> cases neg <;> simp [h] at hn ⊢ <;> omega
      rw [e]
      exact e_res rfl zRes _ _ (fun _ h => h) (fun _ h => h.apart) (fsub_cons (.head _) fsub_nil) ⟨mag', rfl, rfl, rfl⟩
    · have hlt : vx.natAbs < vy.natAbs := by
        have h0 : ¬ 0 ≤ (if vx.natAbs < vy.natAbs then (-1 : Int) else if vx.natAbs = vy.natAbs then 0 else 1) := by assumption
        rcases Nat.lt_or_ge vx.natAbs vy.natAbs with h | h
        · exact h
        · exfalso; apply h0; rw [if_neg (by omega)]; split <;> omega
      refine c_draw ([11, 12], []) [oInt x vx mx, oInt y vy my] [0, 1, 2, 3, 4, 5, 6, 7, 8, 9, 10, 11, 12] (by kernel_rfl) (by kernel_rfl) ?_
      all_goals ((try refine zD ?_) <;> (repeat' (with_reducible first | refine And.intro ?_ ?_ | intro _)))
      refine l_call rfl zEvs rfl (subDigits_spec my mx b a hb.1 ha.1 (hb.le_len ha (by omega)) (by omega) (by rw [ha.2.2, hb.2.2]; omega)) zTake zFsub ?_
      rintro mr L' F' ⟨ds, hds, hv, rfl, rfl⟩
      all_goals ((try refine zD ?_) <;> (repeat' (with_reducible first | refine And.intro ?_ ?_ | intro _)))
      refine l_call rfl zEvs rfl (put_spec z n0 neg m0 mr ds hds) zTake zFsub ?_
      rintro _ L' F' ⟨mag', rfl, rfl, rfl⟩
      all_goals ((try refine zD ?_) <;> (repeat' (with_reducible first | refine And.intro ?_ ?_ | intro _)))
      have e : sv neg (vl 4294967296 ds) = vx + sv neg vy.natAbs := by
        rw [hv, ha.2.2, hb.2.2]
        unfold sv
        by_cases h : vx < 0 <;> cases neg <;> simp [h] at hn ⊢ <;> omega
      rw [e]
      exact e_res rfl zRes _ _ (fun _ h => h) (fun _ h => h.apart) (fsub_cons (.head _) fsub_nil) ⟨mag', rfl, rfl, rfl⟩

theorem Add_spec (z x y : Nat) (vx vy : Int) (n0 : Bool) (m0 mx my : Value) (R : List Own) (hx : oInt x vx mx ∈ oBig z n0 m0 :: R) (hy : oInt y vy my ∈ oBig z n0 m0 :: R) (hvx : vx.natAbs < 4294967296 ^ 900) (hvy : vy.natAbs < 4294967296 ^ 900) :
    Spec Tryz.prog 168 [ptr z, ptr x, ptr y] (oBig z n0 m0 :: R) [fDig mx vx.natAbs, fDig my vy.natAbs] (PInt z (vx + vy) R) := by
  refine enter Tryz.func168 Tryz.ntmps168 rfl (by kernel_rfl) zCon rfl fun G => ?_
  all_goals ((try refine zR ?_) <;> (repeat' (with_reducible first | refine And.intro ?_ ?_ | intro _)))
  refine l_call rfl zEvs rfl (sum_spec z x y vx vy n0 (decide (vy < 0)) m0 mx my R hx hy hvx hvy) (takeAll _) zFsub ?_
  rintro _ L' F' ⟨mag', rfl, rfl, rfl⟩
  all_goals ((try refine zR ?_) <;> (repeat' (with_reducible first | refine And.intro ?_ ?_ | intro _)))
  rw [sv_abs_eq]
  exact e_res rfl zRes _ _ (by simp) (fun _ h => by simpa using h.apart) (fsub_cons (.head _) fsub_nil) ⟨mag', rfl, rfl, rfl⟩

theorem Sub_spec (z x y : Nat) (vx vy : Int) (n0 : Bool) (m0 mx my : Value) (R : List Own) (hx : oInt x vx mx ∈ oBig z n0 m0 :: R) (hy : oInt y vy my ∈ oBig z n0 m0 :: R) (hvx : vx.natAbs < 4294967296 ^ 900) (hvy : vy.natAbs < 4294967296 ^ 900) :
    Spec Tryz.prog 176 [ptr z, ptr x, ptr y] (oBig z n0 m0 :: R) [fDig mx vx.natAbs, fDig my vy.natAbs] (PInt z (vx - vy) R) := by
  refine enter Tryz.func176 Tryz.ntmps176 rfl (by kernel_rfl) zCon rfl fun G => ?_
  all_goals ((try refine zR ?_) <;> (repeat' (with_reducible first | refine And.intro ?_ ?_ | intro _)))
  refine l_call rfl zEvs rfl (sum_spec z x y vx vy n0 _ m0 mx my R hx hy hvx hvy) (takeAll _) zFsub ?_
  rintro _ L' F' ⟨mag', rfl, rfl, rfl⟩
  all_goals ((try refine zR ?_) <;> (repeat' (with_reducible first | refine And.intro ?_ ?_ | intro _)))
  have e : vx + sv (decide (¬ vy < 0)) vy.natAbs = vx - vy := by
    unfold sv
    by_cases h : vy < 0 <;> simp [h] <;> omega
  rw [e]
  exact e_res rfl zRes _ _ (by simp) (fun _ h => by simpa using h.apart) (fsub_cons (.head _) fsub_nil) ⟨mag', rfl, rfl, rfl⟩
end Go.Proofs.YtbllgmcpebifhaaGreatDoor.K
