/- Plain laws: a text cut at its first p; small numbers parsed. -/
import Derived.Test.YtbllgmcpebifhaaDoorMe
import Derived.Lib.ParseIntBCases
import Derived.Lib.CutLaws
import Derived.Lib.IndexLaws
namespace Go.Proofs.YtbllgmcpebifhaaDoor.K
open Go Go.Lib
set_option linter.all false

theorem cut_p (t : List UInt8) : ((112 : UInt8) ∉ t ∧ Lib.cut t [112] = (t, [], false)) ∨ (∃ a b, t = a ++ 112 :: b ∧ (112 : UInt8) ∉ a ∧ Lib.cut t [112] = (a, b, true)) := by
  have hix : Lib.index t [112] = indexByte t 112 := index_one t 112
  have hge := indexByte_ge t 112
  by_cases h : indexByte t 112 = -1
  · refine .inl ⟨fun hm => ?_, by unfold Lib.cut; rw [hix, if_neg (by omega)]⟩
    obtain ⟨k, hk⟩ := List.mem_iff_getElem?.1 hm
    exact indexByte_none h k hk
  · obtain ⟨o, ho⟩ : ∃ o : Nat, indexByte t 112 = o := ⟨(indexByte t 112).toNat, by omega⟩
    obtain ⟨h1, h2⟩ := indexByte_some ho
    have hlt : o < t.length := (List.getElem?_eq_some_iff.1 h1).1
    have hg : t[o] = 112 := (List.getElem?_eq_some_iff.1 h1).2
    refine .inr ⟨t.take o, t.drop (o + 1), ?_, fun hm => ?_, ?_⟩
    · conv => lhs; rw [← List.take_append_drop o t]
      rw [List.drop_eq_getElem_cons hlt, hg]
    · obtain ⟨k, hk⟩ := List.mem_iff_getElem?.1 hm
      rw [List.getElem?_take] at hk
      split at hk
      · exact h2 k (by assumption) hk
      · cases hk
    · unfold Lib.cut
      rw [hix, ho, if_pos (by omega)]
      simp
theorem split_uniq {c : UInt8} {a a' b b' : List UInt8} (h : a ++ c :: b = a' ++ c :: b') (ha : c ∉ a) (ha' : c ∉ a') : a = a' ∧ b = b' := by
  induction a generalizing a' with
  | nil =>
    cases a' with
    | nil => exact ⟨rfl, (List.cons.inj h).2⟩
    | cons x r =>
      have := (List.cons.inj h).1
      exact absurd (this ▸ .head _) ha'
  | cons x r ih =>
    cases a' with
    | nil =>
      have := (List.cons.inj h).1
      exact absurd (this ▸ .head _) ha
    | cons y s =>
      obtain ⟨h1, h2⟩ := List.cons.inj h
      obtain ⟨h3, h4⟩ := ih h2 (fun hm => ha (.tail _ hm)) (fun hm => ha' (.tail _ hm))
      exact ⟨by rw [h1, h3], h4⟩
theorem itoa_no_p (v : Int) : (112 : UInt8) ∉ itoa v := by
  rw [itoa_eq]
  intro h
  rcases List.mem_append.1 h with h | h
  · split at h
    · exact absurd (List.mem_singleton.1 h) (by decide)
    · cases h
  · have := dec_isd _ _ h
    unfold isd at this
    exact absurd this (by decide)

theorem foldl_ge (l : List UInt8) (acc : Nat) : acc ≤ l.foldl (fun a c => 10 * a + (c.toNat - 48)) acc := by
  induction l generalizing acc with
  | nil => exact Nat.le_refl _
  | cons c r ih => exact Nat.le_trans (by omega) (ih (10 * acc + (c.toNat - 48)))
theorem parseUintM_dig (M : Nat) (hM : 1000000000000000000 ≤ M) : ∀ (l : List UInt8) (acc : Nat), (∀ c ∈ l, isd c) → l.foldl (fun a c => 10 * a + (c.toNat - 48)) acc ≤ 1000000000000000000 → parseUintM M acc l = .ok (l.foldl (fun a c => 10 * a + (c.toNat - 48)) acc)
  | [], acc, _, _ => rfl
  | c :: r, acc, hd, hle => by
    have hc := hd c (.head _)
    have hge := foldl_ge r (10 * acc + (c.toNat - 48))
    have hle' : r.foldl (fun a c => 10 * a + (c.toNat - 48)) (10 * acc + (c.toNat - 48)) ≤ 1000000000000000000 := hle
    rw [parseUintM, if_pos ⟨hc.1, hc.2⟩, if_neg (by omega), if_neg (by omega), show acc * 10 + (c.toNat - 48) = 10 * acc + (c.toNat - 48) by omega, parseUintM_dig M hM r _ (fun c h => hd c (.tail _ h)) hle']
    rfl
theorem parse_itoa (e : Int) (he : -5000 ≤ e ∧ e ≤ 5000) : parseIntB 64 (itoa e) = .ok e := by
  have hu : parseUintB 64 (decDigits e.natAbs) = .ok e.natAbs := by
    unfold parseUintB
    rw [if_neg (dec_ne_nil _)]
    have h1 := dval_dec e.natAbs
    unfold dval at h1
    rw [parseUintM_dig _ (by decide) _ 0 (dec_isd _) (by rw [h1]; omega), h1]
  rw [itoa_eq]
  by_cases h : e < 0
  · rw [if_pos h, List.singleton_append, parseIntB_minus, hu]
    unfold signedC
    have : ¬ (2 ^ (64 - 1) < e.natAbs) := by omega
    simp [this]
    omega
  · rw [if_neg h, List.nil_append]
    obtain ⟨c, r, hc⟩ : ∃ c r, decDigits e.natAbs = c :: r := by
      cases hd : decDigits e.natAbs with
      | nil => exact absurd hd (dec_ne_nil _)
      | cons c r => exact ⟨c, r, rfl⟩
    have hcd := dec_isd e.natAbs c (by rw [hc]; exact .head _)
    unfold isd at hcd
    rw [hc, parseIntB_plain 64 c r (by omega) (by omega), ← hc, hu]
    unfold signlessC
    have : ¬ (2 ^ (64 - 1) ≤ e.natAbs) := by omega
    simp [this]
    omega
end Go.Proofs.YtbllgmcpebifhaaDoor.K
