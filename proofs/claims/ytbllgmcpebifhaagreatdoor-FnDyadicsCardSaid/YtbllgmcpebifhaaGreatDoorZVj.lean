/- The reference's texts of exact numbers. -/
import Derived.Test.YtbllgmcpebifhaaGreatDoorZHb
import Derived.Test.YtbllgmcpebifhaaGreatDoorZJg
import Derived.Test.YtbllgmcpebifhaaGreatDoorZLy
import Derived.Test.YtbllgmcpebifhaaGreatDoorZVa

section
namespace Go.Proofs.YtbllgmcpebifhaaGreatDoor.K
open Go Go.RowKit Go.Lib
set_option linter.all false
set_option maxRecDepth 4000
set_option maxHeartbeats 1000000
set_option exponentiation.threshold 8000

theorem digits_step {z : Int} (h0 : ¬ z < 10) : decDigits z.toNat = decDigits (z / 10).toNat ++ [UInt8.ofNat (IntKind.u8.wrap (48 + z % 10)).toNat] := by
  rw [decDigits, dif_neg (by omega)]
  have h1 : (z / 10).toNat = z.toNat / 10 := by omega
  have h2 : (IntKind.u8.wrap (48 + z % 10)).toNat = 48 + z.toNat % 10 := by
    rw [w_u8 (by omega)]; omega
  rw [h1, h2]

theorem l02Digits_spec : ∀ (k : Nat) (z : Int), z.toNat < k → 0 ≤ z → z ≤ 9223372036854775807 → Spec Tryz.prog 239 [.int .i64 z] [] [] (Gives (.string ⟨(decDigits z.toNat).toArray⟩)) := by
  intro k
  induction k with
  | zero => intro z h; omega
  | succ k ih =>
    intro z hk h0 h1
    have hl := decDigits_len (z := z / 10) (by omega) (by omega)
    refine enter Tryz.func239 Tryz.ntmps239 rfl (by kernel_rfl) zCon rfl fun G => ?_
    all_goals ((try refine zR ?_) <;> (repeat' (with_reducible first | refine And.intro ?_ ?_ | intro _)))
    · refine e_gives rfl zRes ?_
      have h2 : (48 + z).toNat = 48 + z.toNat := by omega
      simp [retVal, decDigits_one (i := z.toNat) (by omega), h2]
    refine c_draw ([10], []) [] [0, 1, 2, 3, 4, 5, 6, 7, 8, 9, 10] (by kernel_rfl) (by kernel_rfl) ?_
    all_goals ((try refine zD ?_) <;> (repeat' (with_reducible first | refine And.intro ?_ ?_ | intro _)))
    refine a_quiet0 (v := .string ⟨(decDigits (z / 10).toNat).toArray⟩) rfl rfl (by decide +kernel) rfl (fun w => ?_) ?_
    · exact l_callP rfl zEvs rfl (ih (z / 10) (by omega) (by omega) (by omega)) zFsub (e_q rfl)
    all_goals ((try refine zD ?_) <;> (repeat' (with_reducible first | refine And.intro ?_ ?_ | intro _)))
    · refine e_gives rfl zRes ?_
      rw [digits_step (z := z) (by assumption), w_u8 (by omega)]
      simp [retVal]
theorem l02Text_spec (sg : Int) (v : Value) (l : List Int) (hw : IsW sg l) : Spec Tryz.prog 185 [vWhole sg v] [] [fList 1 (rInt .i64) v l] (Gives (.string ⟨(wText sg l).toArray⟩)) := by
  refine enter Tryz.func185 Tryz.ntmps185 rfl (by kernel_rfl) zCon rfl fun G => ?_
  refine c_isList zMem fun hsl => ?_
  have hlen := hw.len
  all_goals ((try refine zR ?_) <;> (repeat' (with_reducible first | refine And.intro ?_ ?_ | intro _)))
  · obtain rfl : l = [] := by
      have := hw.2
      by_cases h0 : l = []
      · exact h0
      · rw [if_neg h0] at this; omega
    subst sg
    refine e_gives rfl zRes ?_
    simp [retVal, wText, vl, decDigits_one]
  rename_i b hsg
  refine l_call rfl zEvs rfl (l01Own_spec v l (by omega)) zTake zFsub ?_
  rintro r L' F' ⟨rfl, rfl⟩
  have hT := wText_len hw.inR hlen
  all_goals ((try refine zR ?_) <;> (repeat' (with_reducible first | refine And.intro ?_ ?_ | intro _)))
  refine c_while (ι := { p : Value × List Int × List UInt8 // InR 16777216 p.2.1 ∧ Trim p.2.1 ∧ dec0 (vl 16777216 l) = dec0 (vl 16777216 p.2.1) ++ p.2.2 }) (κ := Unit)
    (fun p => [(4, p.1.1), (3, .string ⟨p.1.2.2.toArray⟩), (1, .pointer (some ⟨b, 0, none⟩))]) (fun p => [.row p.1.1 2 1 p.1.2.1.length (p.1.2.1.map (Value.int .i64)), .box b [.int .i64 sg, v] 46]) (fun _ => []) (fun p => vl 16777216 p.1.2.1)
    (fun _ => [(3, .string ⟨(dec0 (vl 16777216 l)).toArray⟩), (1, .pointer (some ⟨b, 0, none⟩))]) (fun _ => [.box b [.int .i64 sg, v] 46]) (fun _ => [])
    ⟨(r, l, []), hw.inR, hw.trim, by simp⟩ (fun _ _ s => s.start zSub zRfl zFsub) ?_ ?_
  · rintro ⟨⟨r1, c, t⟩, hR, hTr, hV⟩
    dsimp only at hR hTr hV ⊢
    have htl : t.length ≤ 4801 := by
      have := congrArg List.length hV
      rw [List.length_append] at this
      omega
    all_goals ((try refine zR ?_) <;> (repeat' (with_reducible first | refine And.intro ?_ ?_ | intro _)))
    · -- the division
      rename_i hc
      have h0 : (divl 16777216 10000000 (c.drop c.length)).2 = 0 := by simp [divl]
      refine c_while (ι := { i : Nat // i ≤ c.length }) (κ := Unit)
        (fun i => [(6, .int .i64 ((i.1 : Int) - 1)), (5, .int .i64 (divl 16777216 10000000 (c.drop i.1)).2), (4, r1), (3, .string ⟨t.toArray⟩), (1, .pointer (some ⟨b, 0, none⟩))])
        (fun i => [.row r1 2 1 c.length ((c.take i.1 ++ (divl 16777216 10000000 (c.drop i.1)).1).map (Value.int .i64)), .box b [.int .i64 sg, v] 46]) (fun _ => []) (fun i => i.1)
        (fun _ => [(5, .int .i64 (divl 16777216 10000000 c).2), (4, r1), (3, .string ⟨t.toArray⟩), (1, .pointer (some ⟨b, 0, none⟩))])
        (fun _ => [.row r1 2 1 c.length ((divl 16777216 10000000 c).1.map (Value.int .i64)), .box b [.int .i64 sg, v] 46]) (fun _ => []) ⟨c.length, Nat.le_refl _⟩ (fun a w s => s.start zSub (by simp [divl]) zFsub) ?_ ?_
      · rintro ⟨i, hi⟩
        dsimp only
        rcases Nat.eq_zero_or_pos i with hi0 | hi0
        · subst hi0
          all_goals ((try refine zR ?_) <;> (repeat' (with_reducible first | refine And.intro ?_ ?_ | intro _)))
          exact e_out () zSub (by simp) (fun _ h => h)
        · obtain ⟨k, rfl⟩ : ∃ k, i = k + 1 := ⟨i - 1, by omega⟩
          have hk : k < c.length := by omega
          have hget := divl_get (b := 16777216) (D := 10000000) c k hk
          have hx := hR _ (List.getElem_mem hk)
          have hrest := divl_rest (b := 16777216) (D := 10000000) (by omega) (c.drop (k + 1))
          have hs : (divl 16777216 10000000 (c.drop k)).2 = ((divl 16777216 10000000 (c.drop (k + 1))).2 * 16777216 + c[k]) % 10000000 := by rw [List.drop_eq_getElem_cons hk]; rfl
          refine c_say (t := 6) (v' := .int .i64 (k : Int)) rfl (congrArg _ (by omega)) ?_
          all_goals ((try refine zR ?_) <;> (repeat' (with_reducible first | refine And.intro ?_ ?_ | intro _)))
          exact e_again ⟨k, by omega⟩ (by dsimp only; omega) zSub (by dsimp only; rw [← divl_step c k hk]) (fun _ h => h)
      · intro _
        have hq := divl_range (b := 16777216) (D := 10000000) (by omega) c hR
        have hqv := divl_val (b := 16777216) (D := 10000000) (by omega) c hR
        have hql := divl_len 16777216 10000000 c
        have hrest := divl_rest (b := 16777216) (D := 10000000) (by omega) c
        revert hq hqv hql hrest
        show InR 16777216 (divl 16777216 10000000 c).1 → (vl 16777216 c : Int) = 10000000 * (vl 16777216 (divl 16777216 10000000 c).1 : Int) + (divl 16777216 10000000 c).2 → _
        generalize (divl 16777216 10000000 c).1 = q
        generalize (divl 16777216 10000000 c).2 = rst
        intro hq hqv hql hrest
        rw [← hql]
        all_goals ((try refine zR ?_) <;> (repeat' (with_reducible first | refine And.intro ?_ ?_ | intro _)))
        -- the zeros at the end
        refine c_while (ι := { p : Value × Nat // p.2 ≤ q.length ∧ ∀ x ∈ q.drop p.2, x = 0 }) (κ := { p : Value × List Int // InR 16777216 p.2 ∧ Trim p.2 ∧ vl 16777216 p.2 = vl 16777216 q })
          (fun p => [(4, p.1.1), (5, .int .i64 rst), (3, .string ⟨t.toArray⟩), (1, .pointer (some ⟨b, 0, none⟩))])
          (fun p => [.row p.1.1 2 1 p.1.2 ((q.take p.1.2).map (Value.int .i64)), .box b [.int .i64 sg, v] 46]) (fun _ => []) (fun p => p.1.2)
          (fun p => [(4, p.1.1), (5, .int .i64 rst), (3, .string ⟨t.toArray⟩), (1, .pointer (some ⟨b, 0, none⟩))])
          (fun p => [.row p.1.1 2 1 p.1.2.length (p.1.2.map (Value.int .i64)), .box b [.int .i64 sg, v] 46]) (fun _ => []) ⟨(r1, q.length), Nat.le_refl _, by simp⟩ (fun a w s => s.start zSub (by simp) zFsub) ?_ ?_
        · rintro ⟨⟨r2, j⟩, hj, hz⟩
          dsimp only at hj hz ⊢
          all_goals ((try refine zR ?_) <;> (repeat' (with_reducible first | refine And.intro ?_ ?_ | intro _)))
          · rename_i r3
            refine e_again ⟨(r3, j - 1), by dsimp only; omega, ?_⟩ (by dsimp only; omega) zSub (by dsimp only; rw [List.take_take, Nat.min_eq_left (by omega)]) (fun _ h => h)
            intro x hx
            rw [List.drop_eq_getElem_cons (by dsimp only; omega)] at hx
            cases hx with
            | head =>
              have h1 : (q.take j)[j - 1]'(by rw [List.length_take]; omega) = 0 := by assumption
              rw [List.getElem_take] at h1
              exact h1
            | tail _ hx => exact hz x (by rwa [show j - 1 + 1 = j by omega] at hx)
          · have hj0 : 0 < (j : Int) := by assumption
            have hl : (q.take j).length = j := by rw [List.length_take]; omega
            refine e_out ⟨(r2, q.take j), hq.take j, .inr ⟨by dsimp only; omega, ?_⟩, vl_take _ _ _ hz⟩ zSub (by dsimp only; rw [hl]) (fun _ h => h)
            dsimp only
            simp only [hl]
            assumption
          · obtain rfl : j = 0 := by omega
            exact e_out ⟨(r2, []), (fun x hx => by cases hx), .inl rfl, by rw [← vl_take 16777216 q 0 hz]; rfl⟩ zSub rfl (fun _ h => h)
        · rintro ⟨⟨r2, c2⟩, hR2, hT2, hv2⟩
          dsimp only at hR2 hT2 hv2 ⊢
          have hdig := l02Digits_spec (rst.toNat + 1) rst (by omega) (by omega) (by omega)
          all_goals (((try refine zR ?_) <;> (repeat' (with_reducible first | refine And.intro ?_ ?_ | intro _))) <;> (repeat' ((first | ((with_reducible apply l_callP); exact rfl; exact zEvs; exact rfl; (with_reducible apply hdig); (case hF => exact zFsub); (try any_goals (refine propId ?_; omega)))) <;> ((try refine zR ?_) <;> (repeat' (with_reducible first | refine And.intro ?_ ?_ | intro _))))))
          have hcp := hTr.pos (by omega) hR (by omega)
          have hq1 : vl 16777216 c / 10 ^ 7 = vl 16777216 q := by omega
          have hq2 : vl 16777216 c % 10 ^ 7 = rst.toNat := by omega
          have hpart := dec0_part (k := 7) (by omega) hcp
          rw [hq1, hq2] at hpart
          have hdl : (decDigits rst.toNat).length ≤ 7 := dec_len_le 7 _ (by omega) (by omega)
          revert hpart hdl
          generalize decDigits rst.toNat = dr
          intro hpart hdl
          have hpl : (if vl 16777216 q = 0 then dr else List.replicate (7 - dr.length) 48 ++ dr).length ≤ 7 := by
            split
            · exact hdl
            · simp; omega
          refine c_while (ι := { j : Nat // j ≤ if c2 = [] then 0 else 7 - dr.length }) (κ := Unit)
            (fun j => [(8, .string ⟨(List.replicate j.1 48 ++ dr).toArray⟩), (4, r2), (3, .string ⟨t.toArray⟩), (1, .pointer (some ⟨b, 0, none⟩))])
            (fun _ => [.row r2 2 1 c2.length (c2.map (Value.int .i64)), .box b [.int .i64 sg, v] 46]) (fun _ => []) (fun j => 7 - j.1)
            (fun _ => [(8, .string ⟨(if vl 16777216 q = 0 then dr else List.replicate (7 - dr.length) 48 ++ dr).toArray⟩), (4, r2), (3, .string ⟨t.toArray⟩), (1, .pointer (some ⟨b, 0, none⟩))])
            (fun _ => [.row r2 2 1 c2.length (c2.map (Value.int .i64)), .box b [.int .i64 sg, v] 46]) (fun _ => []) ⟨0, by split <;> omega⟩ (fun _ _ s => s.start zSub zRfl zFsub) ?_ ?_
          · rintro ⟨j, hj⟩
            dsimp only
            all_goals ((try refine zR ?_) <;> (repeat' (with_reducible first | refine And.intro ?_ ?_ | intro _)))
            · have hn : ¬ c2 = [] := fun h => by subst h; simp at *
              rw [if_neg hn] at hj
              have hl7 : ((List.replicate j 48 ++ dr).length : Int) < 7 := by assumption
              simp only [List.length_append, List.length_replicate] at hl7
              exact e_again ⟨j + 1, by rw [if_neg hn]; omega⟩ (by dsimp only; omega) zSub rfl (fun _ h => h)
            · have hn : ¬ c2 = [] := fun h => by subst h; simp at *
              rw [if_neg hn] at hj
              have hl7 : ¬ ((List.replicate j 48 ++ dr).length : Int) < 7 := by assumption
              simp only [List.length_append, List.length_replicate] at hl7
              have hvq : ¬ vl 16777216 q = 0 := by
                have := hT2.pos (by omega) hR2 (by omega)
                omega
              have hj7 : j = 7 - dr.length := by omega
              subst hj7
              rw [if_neg hvq]
              exact e_out () zSub rfl (fun _ h => h)
            · have hn : c2 = [] := List.eq_nil_of_length_eq_zero (by omega)
              rw [if_pos hn] at hj
              obtain rfl : j = 0 := by omega
              have hvq : vl 16777216 q = 0 := by rw [← hv2, hn]; rfl
              rw [if_pos hvq]
              exact e_out () zSub rfl (fun _ h => h)
          · intro _
            all_goals ((try refine zR ?_) <;> (repeat' (with_reducible first | refine And.intro ?_ ?_ | intro _)))
            refine e_again ⟨(r2, c2, _), hR2, hT2, ?_⟩ ?_ zSub rfl (fun _ h => h)
            · dsimp only
              rw [hV, hpart, hv2, List.append_assoc]
            · dsimp only
              omega
    · have hc0 : c = [] := List.eq_nil_of_length_eq_zero (by omega)
      subst hc0
      have ht : t = dec0 (vl 16777216 l) := by rw [hV]; simp [vl, dec0]
      subst ht
      refine ends_drop .head ?_
      exact e_out () zSub rfl (fun _ h => h)
  · intro _
    have hpos : 0 < vl 16777216 l := hw.trim.pos (by omega) hw.inR (hw.pos hsg)
    have hd : dec0 (vl 16777216 l) = decDigits (vl 16777216 l) := by unfold dec0; rw [if_neg (by omega)]
    all_goals ((try refine zR ?_) <;> (repeat' (with_reducible first | refine And.intro ?_ ?_ | intro _)))
    all_goals (refine e_gives rfl zRes ?_)
    all_goals simp [retVal, wText, hd, *]
theorem isW_of {v : Int} (h1 : v.natAbs < 2 ^ 4800) : IsW (sgn v) (limbs v.natAbs) := by
  refine ⟨fun x hx => ?_, ?_⟩
  · have := limbs_range v.natAbs x hx; omega
  · by_cases h0 : v = 0
    · subst h0; rw [if_pos (by simp [limbs_zero])]; rfl
    · have hne : limbs v.natAbs ≠ [] := fun h => by have := limbs_nil.1 h; omega
      rw [if_neg hne]
      have ht := limbs_trim v.natAbs
      refine ⟨limbs_two 200 h1, ?_, by unfold sgn; rw [if_neg h0]; split <;> simp⟩
      rcases ht with ht | ⟨hl, ht⟩
      · exact absurd ht hne
      · rw [List.getD_eq_getElem?_getD, List.getElem?_eq_getElem hl]; exact ht
theorem l03Text_spec (v e : Int) (u : Value) (hD : IsD (sgn v) e (limbs v.natAbs)) : Spec Tryz.prog 115 [vDyadic (sgn v) u e] [] [fList 1 (rInt .i64) u (limbs v.natAbs)] (Gives (.string ⟨(itoa v ++ 112 :: itoa e).toArray⟩)) := by
  refine enter Tryz.func115 Tryz.ntmps115 rfl (by kernel_rfl) zCon rfl fun G => ?_
  refine c_isList zMem fun hsl => ?_
  have hw := hD.1
  have hT := l02Text_spec (sgn v) u (limbs v.natAbs) hw
  have hO := l02Of_spec e (by have := hD.2.1; omega)
  all_goals ((try refine zS ?_) <;> (repeat' (with_reducible first | refine And.intro ?_ ?_ | intro _)))
  rename_i b
  refine c_draw ([9], []) [.box b [.int .i64 (sgn v), u, .int .i64 e] 48] [0, 1, 4, 5, 2, 3, 6, 7, 8, 9] (by kernel_rfl) (by kernel_rfl) ?_
  have hwl : (wText (sgn v) (limbs v.natAbs)).length ≤ 4802 := wText_le hw
  have he := hD.2.1
  have hel : (itoa e).length ≤ 21 := itoa_length_le e (by omega) (by omega)
  rw [wText_itoa] at hT hwl
  all_goals (((try refine zD ?_) <;> (repeat' (with_reducible first | refine And.intro ?_ ?_ | intro _))) <;> (repeat' ((first | ((with_reducible apply l_callP); exact rfl; exact zEvs; exact rfl; (with_reducible apply hT); (case hF => exact zFsub); (try any_goals (refine propId ?_; omega)))) <;> ((try refine zD ?_) <;> (repeat' (with_reducible first | refine And.intro ?_ ?_ | intro _))))))
  refine l_call rfl zEvs rfl hO zTake zFsub ?_
  rintro _ L' F' ⟨v2, rfl, rfl, rfl⟩
  have hT2 := l02Text_spec (sgn e) v2 (limbs e.natAbs) (isW_of (Nat.lt_of_le_of_lt (show e.natAbs ≤ 2 ^ 13 by omega) (Nat.pow_lt_pow_right (by omega) (by omega))))
  rw [wText_itoa] at hT2
  refine l_isList (.head _) fun hsl2 => ?_
  all_goals (((try refine zD ?_) <;> (repeat' (with_reducible first | refine And.intro ?_ ?_ | intro _))) <;> (repeat' ((first | ((with_reducible apply l_callP); exact rfl; exact zEvs; exact rfl; (with_reducible apply hT2); (case hF => exact zFsub); (try any_goals (refine propId ?_; omega)))) <;> ((try refine zD ?_) <;> (repeat' (with_reducible first | refine And.intro ?_ ?_ | intro _))))))
  refine e_gives rfl zRes ?_
  simp [retVal]
end Go.Proofs.YtbllgmcpebifhaaGreatDoor.K
end

section
/- The draw of texts. -/
namespace Go.Proofs.YtbllgmcpebifhaaGreatDoor.K
open Go Go.RowKit Go.Lib
set_option linter.all false
set_option maxRecDepth 4000
set_option maxHeartbeats 1000000
set_option exponentiation.threshold 8000

theorem Run.le {h : Int} {r : Nat} (hr : Run h r) : r ≤ 268435456 := Nat.le_of_not_lt fun hj => by
  obtain ⟨h1, e, hp⟩ := hr
  exact no_run h1 fun i hi => hp i (by omega)
/-- What is known of a drawn text's length, and how many tests are left. -/
def TxI (N len : Nat) (s : Int × Int) (j : Nat) : Prop := (s.1 < (N : Int) ∧ (len : Int) ≤ 50 + s.1) ∨ (s.1 = (N : Int) ∧ ∃ r, Chain s.2 j ∧ Run s.2 r ∧ len ≤ 50 + N + r)
def mu (N : Nat) (s : Int × Int) (j : Nat) : Nat := if s.1 < (N : Int) then ((N : Int) - s.1).toNat + 72057594037927941 else 72057594037927941 - j
theorem TxI.len {N len : Nat} {s : Int × Int} {j : Nat} (h : TxI N len s j) (hs : s.1 ≤ (N : Int)) (hN : N ≤ 100000) : len ≤ 300000000 := by
  rcases h with ⟨h1, h2⟩ | ⟨h1, r, _, h3, h4⟩
  · omega
  · have := h3.le; omega
theorem TxI.first {N len : Nat} (s : Seed N) (h : len ≤ 50) : TxI N len s.1 0 := by
  have hs := s.2
  by_cases h1 : s.1.1 < (N : Int)
  · exact .inl ⟨h1, by omega⟩
  · exact .inr ⟨by omega, 0, Chain.zero _, Run.zero _, by omega⟩
theorem inv_step {N len len2 : Nat} {s s1 s2 : Seed N} {x : Int} {j : Nat} (h : TxI N len s.1 j) (h1 : Nx N s.1 3 x s1.1) (hx0 : x = 0) (h2 : Dm N s1.1 s2.1 (if len = 0 then 1 else 3)) (hl : len2 ≤ len + 1) : ∃ j2, TxI N len2 s2.1 j2 ∧ mu N s2.1 j2 < mu N s.1 j := by
  have k1 := nx_one h1
  obtain ⟨a1, a2, a3⟩ := k1
  obtain ⟨b1, b2, b3⟩ := h2
  have q0 := s.2
  have q1 := s1.2
  have q2 := s2.2
  rcases h with ⟨h3, h4⟩ | ⟨h3, r, h4, h5, h6⟩
  · have hlt := a2 h3
    have hle : s1.1.1 ≤ s2.1.1 := by
      by_cases e : s1.1.1 < (N : Int)
      · have := b2 e; omega
      · have := b3 (by omega); omega
    by_cases e : s2.1.1 < (N : Int)
    · exact ⟨0, .inl ⟨e, by omega⟩, by unfold mu; rw [if_pos e, if_pos h3]; omega⟩
    · exact ⟨0, .inr ⟨by omega, 0, Chain.zero _, Run.zero _, by omega⟩, by unfold mu; rw [if_neg e, if_pos h3]; omega⟩
  · have e1 := a3 h3
    have e2 := b3 e1
    have hpass : vx (hx s.1.2) % 3 = 0 := by
      have := h1.2
      rw [if_neg (by omega)] at this
      rw [← this.2]; exact hx0
    have hj := h4.ends hpass
    have e3 : s2.1.2 = hi ((if len = 0 then 1 else 3) + 1) s.1.2 := by
      rw [b1, a1, Nat.add_comm, hi_add]
    have hc : Chain s2.1.2 (j + 1) := by
      rw [e3]
      exact h4.step hpass _ (by by_cases e : len = 0 <;> simp [e])
    have hm : mu N s2.1 (j + 1) < mu N s.1 j := by unfold mu; rw [if_neg (by omega), if_neg (by omega)]; omega
    by_cases e : len = 0
    · exact ⟨j + 1, .inr ⟨e2, 0, hc, Run.zero _, by omega⟩, hm⟩
    · refine ⟨j + 1, .inr ⟨e2, r + 1, hc, ?_, by omega⟩, hm⟩
      rw [e3, if_neg e]
      exact h5.step hpass
theorem DrawParseDyadic_spec (vc : Value) (code : List Int) (hb : Bytes code) (hl : code.length ≤ 100000) : Spec Tryz.prog 39 [vc] [] [fCode vc code] (PM (fun i : {t : List UInt8 // t.length ≤ 300000000} => .string ⟨i.1.toArray⟩) fun _ => []) := by
  refine enter Tryz.func39 Tryz.ntmps39 rfl (by kernel_rfl) zCon rfl fun G => ?_
  refine c_isList (v := vc) zMem fun hsp => ?_
  have hFr := l01From_spec vc code hb hl
  have hN := fun b => l01Next_spec b vc code hb hl
  have hNX := fun b => l01NextX_spec b vc code hb hl
  have hD := fun b => l01Damage_spec b vc code hb hl
  all_goals (((try refine zR3 ?_) <;> (repeat' (with_reducible first | refine And.intro ?_ ?_ | intro _))) <;> (repeat' ((first | ((with_reducible apply l_callM); exact rfl; exact rfl; exact zEvs; exact rfl; (apply hFr); (case hL => exact zTake); (case hF => exact zFsub); (try any_goals (refine propId ?_; first | omega | exact zLt)); (with_reducible intro _))) <;> ((try refine zR3 ?_) <;> (repeat' (with_reducible first | refine And.intro ?_ ?_ | intro _))))))
  rename_i u
  obtain ⟨b, s⟩ := u
  dsimp only
  refine l_callM rfl rfl zEvs rfl (hN b s 20001 (by omega)) zTake zFsub fun i => ?_
  obtain ⟨⟨x, hx0, _, hx2⟩, s1⟩ := i
  have hx3 := hx2 (by omega)
  dsimp only
  all_goals ((try refine zR3 ?_) <;> (repeat' (with_reducible first | refine And.intro ?_ ?_ | intro _)))
  refine l_call rfl zEvs rfl (l02Of_spec (x - 10000) (by omega)) zTake zFsub ?_
  rintro _ L' F' ⟨u1, rfl, rfl, rfl⟩
  refine l_isList (.head _) fun hsu1 => ?_
  all_goals ((try refine zR3 ?_) <;> (repeat' (with_reducible first | refine And.intro ?_ ?_ | intro _)))
  refine l_callM rfl rfl zEvs rfl (hN b s1 101 (by omega)) zTake zFsub fun i => ?_
  obtain ⟨⟨y, hy0, _, hy2⟩, s2⟩ := i
  have hy3 := hy2 (by omega)
  dsimp only
  have hv : (x - 10000).natAbs < 2 ^ 14 := by omega
  have ht := twos_blen hv
  all_goals ((try refine zR3 ?_) <;> (repeat' (with_reducible first | refine And.intro ?_ ?_ | intro _)))
  refine l_call rfl zEvs rfl (l03Make_spec u1 (x - 10000) (y - 50) (Nat.le_trans (limbs_two 1 (Nat.lt_of_lt_of_le hv (by decide))) (by omega)) (by omega) (by omega)) zTake zFsub ?_
  rintro _ L' F' ⟨u2, rfl, rfl, rfl⟩
  refine l_isList (.head _) fun hsu2 => ?_
  have hnl := nv_le (x - 10000)
  have hne : -5000 ≤ ne (x - 10000) (y - 50) ∧ ne (x - 10000) (y - 50) ≤ 5000 := by unfold ne; split <;> omega
  have hDD := nrm_isD (nv_nrm (x - 10000) (y - 50)) (Nat.lt_trans (Nat.lt_of_le_of_lt hnl hv) (Nat.pow_lt_pow_right (by omega) (by omega))) hne
  have hTx := l03Text_spec (nv (x - 10000)) (ne (x - 10000) (y - 50)) u2 hDD
  have hl1 := itoa_length_le (nv (x - 10000)) (by omega) (by omega)
  have hl2 := itoa_length_le (ne (x - 10000) (y - 50)) (by omega) (by omega)
  change RunL _ _ _ _ _ _ ((14, vDyadic (sgn (nv (x - 10000))) u2 (ne (x - 10000) (y - 50))) :: _) _ (fList 1 (rInt .i64) u2 (limbs (nv (x - 10000)).natAbs) :: _)
  obtain ⟨t0, ht0⟩ : ∃ t0, itoa (nv (x - 10000)) ++ 112 :: itoa (ne (x - 10000) (y - 50)) = t0 := ⟨_, rfl⟩
  have htl : t0.length ≤ 50 := by rw [← ht0, List.length_append, List.length_cons]; omega
  rw [ht0] at hTx
  all_goals ((try refine zR3 ?_) <;> (repeat' (with_reducible first | refine And.intro ?_ ?_ | intro _)))
  refine l_callP rfl zEvs rfl hTx zFsub ?_
  all_goals ((try refine zR3 ?_) <;> (repeat' (with_reducible first | refine And.intro ?_ ?_ | intro _)))
  refine c_while (ι := {y : List UInt8 × Seed code.length × Nat // TxI code.length y.1.length y.2.1.1 y.2.2}) (κ := {y : List UInt8 × Seed code.length // y.1.length ≤ 300000000})
    (fun y => [(4, .string ⟨y.1.1.toArray⟩), (3, pt b)]) (fun y => [oSrc b vc y.1.2.1]) (fun _ => [fCode vc code]) (fun y => mu code.length y.1.2.1.1 y.1.2.2)
    (fun y => [(4, .string ⟨y.1.1.toArray⟩), (3, pt b)]) (fun y => [oSrc b vc y.1.2]) (fun _ => [fCode vc code]) ⟨(t0, s2, 0), TxI.first s2 htl⟩ (fun _ _ s => s.startT zSub zTake zFsub) ?_ ?_
  · rintro ⟨⟨t, s, j⟩, hinv⟩
    dsimp only at hinv ⊢
    have htl := hinv.len s.2.2.1 hl
    all_goals ((try refine zR3 ?_) <;> (repeat' (with_reducible first | refine And.intro ?_ ?_ | intro _)))
    refine l_callM rfl rfl zEvs rfl (hNX b s 3 (by omega)) zTake zFsub fun i => ?_
    obtain ⟨⟨⟨x, hx0, _, hx2⟩, s1⟩, hs1⟩ := i
    dsimp only at hs1 ⊢
    all_goals ((try refine zR3 ?_) <;> (repeat' (with_reducible first | refine And.intro ?_ ?_ | intro _)))
    · refine l_callM rfl rfl zEvs rfl (hD b s1 t (by omega)) zTake zFsub fun i => ?_
      obtain ⟨⟨t2, s2⟩, hl2, hd2⟩ := i
      dsimp only at hl2 hd2 ⊢
      obtain ⟨j2, hinv2, hm⟩ := inv_step hinv hs1 (by assumption) hd2 hl2
      all_goals ((try refine zR3 ?_) <;> (repeat' (with_reducible first | refine And.intro ?_ ?_ | intro _)))
      exact e_again ⟨(t2, s2, j2), hinv2⟩ hm zSub rfl zFsub
    · exact e_out ⟨(t, s1), htl⟩ zSub rfl zFsub
  · rintro ⟨⟨t, s⟩, htl⟩
    dsimp only at htl ⊢
    all_goals ((try refine zR3 ?_) <;> (repeat' (with_reducible first | refine And.intro ?_ ?_ | intro _)))
    exact e_pm ⟨t, htl⟩ rfl zRes .nil rfl
end Go.Proofs.YtbllgmcpebifhaaGreatDoor.K
end
