/- A whole number out of a value. -/
import Derived.Test.YtbllgmcpebifhaaGreatDoorZGf
import Derived.Test.YtbllgmcpebifhaaGreatDoorZMa

section
namespace Go.Proofs.YtbllgmcpebifhaaGreatDoor.K
open Go Go.RowKit
set_option linter.all false
set_option maxRecDepth 4000
set_option maxHeartbeats 1000000
set_option exponentiation.threshold 8000

/-- A whole number in limbs, with its own row; R stays. -/
def PWhole (v : Int) (R : List Own) (r : Value) (L' : List Own) (F' : List Fact) : Prop :=
  if v.natAbs < 2 ^ 4800 then ∃ u, r = .tuple #[vWhole (sgn v) u, .int .i64 0] ∧ L' = .row u 2 1 (limbs v.natAbs).length ((limbs v.natAbs).map (Value.int .i64)) :: R ∧ F' = []
  else r = .tuple #[vWhole 0 (.slice none 0 0), .int .i64 3] ∧ L' = R ∧ F' = []

theorem two4800 : (2 : Nat) ^ 4800 = 4294967296 ^ 150 := by rw [show (4294967296 : Nat) = 2 ^ 32 by decide, ← Nat.pow_mul]

theorem Rsh24_spec (z x : Nat) (v : Int) (n0 : Bool) (m0 mx : Value) (R : List Own) (hx : oInt x v mx ∈ oBig z n0 m0 :: R) (hv : v.natAbs < 4294967296 ^ 1000) (h0 : 0 ≤ v) :
    Spec Tryz.prog 182 [ptr z, ptr x, .int .u64 24] (oBig z n0 m0 :: R) [fDig mx v.natAbs] (PInt z (v / 16777216) R) := Rsh_spec z x v n0 m0 mx R 0 24 (by omega) (by omega) hx hv h0
theorem Lsh24_spec (z x : Nat) (v : Int) (n0 : Bool) (m0 mx : Value) (R : List Own) (hx : oInt x v mx ∈ oBig z n0 m0 :: R) (hv : v.natAbs < 4294967296 ^ 1000) :
    Spec Tryz.prog 229 [ptr z, ptr x, .int .u64 24] (oBig z n0 m0 :: R) [fDig mx v.natAbs] (PInt z (v * 16777216) R) := Lsh_spec z x v n0 m0 mx R 0 24 (by omega) (by omega) hx hv
theorem c_nilRow {G : Ctx} {n : Nat} {P : Program} {Q : Post} {m : Regs} {L : List Own} {F : List Fact} {c : Code} {e : TypeId} (s : Nat) (h : RunC G n P c Q m (.row (.slice none 0 0) e s 0 [] :: L) F) : RunC G n P c Q m L F :=
  fun a w st => h a w (st.add (Keep.refl _ _) (World.ownsRow_nil w 0 e s) fun x hx => by simp [Own.key, Value.ownBlock] at hx)

theorem whole_spec (x : Nat) (v : Int) (mx : Value) (R : List Own) (hx : oInt x v mx ∈ R) (hv : v.natAbs < 4294967296 ^ 900) :
    Spec Tryz.prog 181 [ptr x] R [fDig mx v.natAbs] (PWhole v R) := by
  refine enter Tryz.func181 Tryz.ntmps181 rfl (by kernel_rfl) zCon rfl fun G => ?_
  have h2000 : v.natAbs < 4294967296 ^ 2000 := Nat.lt_of_lt_of_le hv (Nat.pow_le_pow_right (by omega) (by omega))
  all_goals ((try refine zS ?_) <;> (repeat' (with_reducible first | refine And.intro ?_ ?_ | intro _)))
  rename_i b2
  refine l_callVA rfl zEvs rfl (BitLen_spec x v mx _ (.tail _ hx) h2000) zFsub ?_
  rcases Nat.lt_or_ge v.natAbs (2 ^ 4800) with hlt | hge
  · have hb : blen v.natAbs ≤ 4800 := blen_le.2 hlt
    all_goals ((try refine zR ?_) <;> (repeat' (with_reducible first | refine And.intro ?_ ?_ | intro _)))
    all_goals (first | (exfalso; omega) | skip)
    refine l_callVA rfl zEvs rfl (Sign_spec x v mx _ (.tail _ hx)) zFsub ?_
    all_goals ((try refine zR ?_) <;> (repeat' (with_reducible first | refine And.intro ?_ ?_ | intro _)))
    rename_i b14
    refine l_callIA rfl zEvs rfl (Abs_spec b14 x v false _ mx _ (.tail _ (.tail _ hx)) h2000) zFsub fun mr => ?_
    all_goals ((try refine zR ?_) <;> (repeat' (with_reducible first | refine And.intro ?_ ?_ | intro _)))
    rename_i b4
    refine c_nilRow (e := 2) 1 ?_
    refine c_while (ι := { p : Nat × Value × Nat × Value × List Int // p.2.2.1 ≤ v.natAbs ∧ p.2.2.2.2 ++ limbs p.2.2.1 = limbs v.natAbs }) (κ := Value)
      (fun p => [(5, ptr p.1.1), (4, ptr b4), (3, .int .i64 0), (2, ptr b2)]) (fun p => .row p.1.2.2.2.1 2 1 p.1.2.2.2.2.length (p.1.2.2.2.2.map (Value.int .i64)) :: .box b4 [.int .i64 (sgn v), p.1.2.2.2.1] 46 :: oInt p.1.1 (p.1.2.2.1 : Int) p.1.2.1 :: .box b2 [.int .i64 0, .slice none 0 0] 46 :: R) (fun p => [fDig p.1.2.1 ((p.1.2.2.1 : Int)).natAbs]) (fun p => p.1.2.2.1)
      (fun _ => [(4, ptr b4), (3, .int .i64 0), (2, ptr b2)]) (fun u => .row u 2 1 (limbs v.natAbs).length ((limbs v.natAbs).map (Value.int .i64)) :: .box b4 [.int .i64 (sgn v), u] 46 :: .box b2 [.int .i64 0, .slice none 0 0] 46 :: R) (fun _ => []) ⟨(b14, mr, v.natAbs, .slice none 0 0, []), Nat.le_refl _, rfl⟩ (fun _ _ s => s.start zSub zRfl zFsub) ?_ ?_
    · rintro ⟨⟨b, mr, n, u, l⟩, hn, hl⟩
      dsimp only at hn hl ⊢
      have hn900 : ((n : Int)).natAbs < 4294967296 ^ 900 := by rw [Int.natAbs_natCast]; exact Nat.lt_of_le_of_lt hn hv
      have hn1000 : ((n : Int)).natAbs < 4294967296 ^ 1000 := Nat.lt_of_lt_of_le hn900 (Nat.pow_le_pow_right (by omega) (by omega))
      have hll : l.length ≤ 200 := by
        have h1 := limbs_len_le 200 v.natAbs (by rw [show (16777216 : Nat) = 2 ^ 24 by decide, ← Nat.pow_mul]; exact hlt)
        have h2 := congrArg List.length hl
        rw [List.length_append] at h2
        omega
      all_goals ((try refine zR ?_) <;> (repeat' (with_reducible first | refine And.intro ?_ ?_ | intro _)))
      refine l_callVA rfl zEvs rfl (Sign_spec b n mr _ zMem) zFsub ?_
      by_cases hn0 : n = 0
      · subst hn0
        all_goals ((try refine zR ?_) <;> (repeat' (with_reducible first | refine And.intro ?_ ?_ | intro _)))
        refine ends_take (L' := .row u 2 1 l.length (l.map (Value.int .i64)) :: .box b4 [.int .i64 (sgn v), u] 46 :: .box b2 [.int .i64 0, .slice none 0 0] 46 :: R) zTake ?_
        rw [limbs_zero, List.append_nil] at hl
        subst hl
        exact e_out u zSub rfl (fun _ h => by cases h)
      · have hs : sgn (n : Int) = 1 := by unfold sgn; rw [if_neg (by omega), if_neg (by omega)]
        rw [hs]
        all_goals ((try refine zR ?_) <;> (repeat' (with_reducible first | refine And.intro ?_ ?_ | intro _)))
        rename_i b20
        refine l_callI rfl zEvs rfl (Rsh24_spec b20 b n _ _ mr [oInt b n mr] zMem hn1000 (by omega)) zTake zFsub fun mh => ?_
        have e : (n : Int) / 16777216 = ((n / 16777216 : Nat) : Int) := by omega
        rw [e]
        all_goals ((try refine zS ?_) <;> (repeat' (with_reducible first | refine And.intro ?_ ?_ | intro _)))
        refine c_draw ([12], []) [.box b4 [.int .i64 (sgn v), u] 46] [0, 1, 3, 5, 2, 4, 6, 7, 8, 9, 10, 11, 12] (by kernel_rfl) (by kernel_rfl) ?_
        all_goals ((try refine zD ?_) <;> (repeat' (with_reducible first | refine And.intro ?_ ?_ | intro _)))
        have hh900 : (((n / 16777216 : Nat) : Int) * 16777216).natAbs < 4294967296 ^ 900 := by
          have : (((n / 16777216 : Nat) : Int) * 16777216).natAbs ≤ ((n : Int)).natAbs := by omega
          exact Nat.lt_of_le_of_lt this hn900
        have hh1000 : (((n / 16777216 : Nat) : Int)).natAbs < 4294967296 ^ 1000 := by
          have : (((n / 16777216 : Nat) : Int)).natAbs ≤ ((n : Int)).natAbs := by omega
          exact Nat.lt_of_le_of_lt this hn1000
        refine a_two (k := 4) [4, 6, 7, 8, 9, 10, 11, 12] [2, 6, 7, 8, 9, 10, 11, 12] rfl rfl (.inl (by decide +kernel)) rfl rfl ?_ ?_
        · all_goals ((try refine zD ?_) <;> (repeat' (with_reducible first | refine And.intro ?_ ?_ | intro _)))
          rename_i b25 b27
          refine l_callI rfl zEvs rfl (Lsh24_spec b27 b20 _ _ _ mh [oInt b20 ((n / 16777216 : Nat) : Int) mh] zMem hh1000) zTake zFsub fun ml => ?_
          all_goals ((try refine zD ?_) <;> (repeat' (with_reducible first | refine And.intro ?_ ?_ | intro _)))
          refine l_callI rfl zEvs rfl (Sub_spec b25 b b27 _ _ false _ mr ml [oInt b n mr, oInt b27 (((n / 16777216 : Nat) : Int) * 16777216) ml] zMem zMem hn900 hh900) zTake zFsub fun ms => ?_
          all_goals ((try refine zD ?_) <;> (repeat' (with_reducible first | refine And.intro ?_ ?_ | intro _)))
          refine l_callV rfl zEvs rfl (Int64_spec b25 _ ms [oInt b25 ((n : Int) - ((n / 16777216 : Nat) : Int) * 16777216) ms] zMem (by omega)) zTake zFsub ?_
          all_goals ((try refine zD ?_) <;> (repeat' (with_reducible first | refine And.intro ?_ ?_ | intro _)))
          rename_i _ u'
          refine l_isRow (v := u') (.own zMem) fun hsu _ => ?_
          all_goals ((try refine zD ?_) <;> (repeat' (with_reducible first | refine And.intro ?_ ?_ | intro _)))
          have el : (n : Int) - ((n / 16777216 : Nat) : Int) * 16777216 = ((n % 16777216 : Nat) : Int) := by omega
          rw [el]
          refine ends_take (L' := .row u' 2 1 (l.length + 1) ((l ++ [((n % 16777216 : Nat) : Int)]).map (Value.int .i64)) :: .box b4 [.int .i64 (sgn v), u'] 46 :: oInt b20 ((n / 16777216 : Nat) : Int) mh :: .box b2 [.int .i64 0, .slice none 0 0] 46 :: R) zTake ?_
          refine e_again ⟨(b20, mh, n / 16777216, u', l ++ [((n % 16777216 : Nat) : Int)]), by dsimp only; omega, ?_⟩ (by dsimp only; omega) zSub (by simp) zFsub
          dsimp only
          rw [← hl, limbs_pos hn0, List.append_assoc]; rfl
        · all_goals ((try refine zD ?_) <;> (repeat' (with_reducible first | refine And.intro ?_ ?_ | intro _)))
          rename_i b27
          refine a_two (k := 6) [6, 7, 8, 9, 10, 11, 12] [2, 7, 8, 9, 10, 11, 12] rfl rfl (.inl (by decide +kernel)) rfl rfl ?_ ?_
          · all_goals ((try refine zD ?_) <;> (repeat' (with_reducible first | refine And.intro ?_ ?_ | intro _)))
            rename_i b25
            refine l_callI rfl zEvs rfl (Lsh24_spec b27 b20 _ _ _ mh [oInt b20 ((n / 16777216 : Nat) : Int) mh] zMem hh1000) zTake zFsub fun ml => ?_
            all_goals ((try refine zD ?_) <;> (repeat' (with_reducible first | refine And.intro ?_ ?_ | intro _)))
            refine l_callI rfl zEvs rfl (Sub_spec b25 b b27 _ _ false _ mr ml [oInt b n mr, oInt b27 (((n / 16777216 : Nat) : Int) * 16777216) ml] zMem zMem hn900 hh900) zTake zFsub fun ms => ?_
            all_goals ((try refine zD ?_) <;> (repeat' (with_reducible first | refine And.intro ?_ ?_ | intro _)))
            refine l_callV rfl zEvs rfl (Int64_spec b25 _ ms [oInt b25 ((n : Int) - ((n / 16777216 : Nat) : Int) * 16777216) ms] zMem (by omega)) zTake zFsub ?_
            all_goals ((try refine zD ?_) <;> (repeat' (with_reducible first | refine And.intro ?_ ?_ | intro _)))
            rename_i _ u'
            refine l_isRow (v := u') (.own zMem) fun hsu _ => ?_
            all_goals ((try refine zD ?_) <;> (repeat' (with_reducible first | refine And.intro ?_ ?_ | intro _)))
            have el : (n : Int) - ((n / 16777216 : Nat) : Int) * 16777216 = ((n % 16777216 : Nat) : Int) := by omega
            rw [el]
            refine ends_take (L' := .row u' 2 1 (l.length + 1) ((l ++ [((n % 16777216 : Nat) : Int)]).map (Value.int .i64)) :: .box b4 [.int .i64 (sgn v), u'] 46 :: oInt b20 ((n / 16777216 : Nat) : Int) mh :: .box b2 [.int .i64 0, .slice none 0 0] 46 :: R) zTake ?_
            refine e_again ⟨(b20, mh, n / 16777216, u', l ++ [((n % 16777216 : Nat) : Int)]), by dsimp only; omega, ?_⟩ (by dsimp only; omega) zSub (by simp) zFsub
            dsimp only
            rw [← hl, limbs_pos hn0, List.append_assoc]; rfl
          · refine l_callI rfl zEvs rfl (Lsh24_spec b27 b20 _ _ _ mh [oInt b20 ((n / 16777216 : Nat) : Int) mh] zMem hh1000) zTake zFsub fun ml => ?_
            all_goals ((try refine zD ?_) <;> (repeat' (with_reducible first | refine And.intro ?_ ?_ | intro _)))
            rename_i b25
            refine l_callI rfl zEvs rfl (Sub_spec b25 b b27 _ _ false _ mr ml [oInt b n mr, oInt b27 (((n / 16777216 : Nat) : Int) * 16777216) ml] zMem zMem hn900 hh900) zTake zFsub fun ms => ?_
            all_goals ((try refine zD ?_) <;> (repeat' (with_reducible first | refine And.intro ?_ ?_ | intro _)))
            refine l_callV rfl zEvs rfl (Int64_spec b25 _ ms [oInt b25 ((n : Int) - ((n / 16777216 : Nat) : Int) * 16777216) ms] zMem (by omega)) zTake zFsub ?_
            all_goals ((try refine zD ?_) <;> (repeat' (with_reducible first | refine And.intro ?_ ?_ | intro _)))
            rename_i _ u'
            refine l_isRow (v := u') (.own zMem) fun hsu _ => ?_
            all_goals ((try refine zD ?_) <;> (repeat' (with_reducible first | refine And.intro ?_ ?_ | intro _)))
            have el : (n : Int) - ((n / 16777216 : Nat) : Int) * 16777216 = ((n % 16777216 : Nat) : Int) := by omega
            rw [el]
            refine ends_take (L' := .row u' 2 1 (l.length + 1) ((l ++ [((n % 16777216 : Nat) : Int)]).map (Value.int .i64)) :: .box b4 [.int .i64 (sgn v), u'] 46 :: oInt b20 ((n / 16777216 : Nat) : Int) mh :: .box b2 [.int .i64 0, .slice none 0 0] 46 :: R) zTake ?_
            refine e_again ⟨(b20, mh, n / 16777216, u', l ++ [((n % 16777216 : Nat) : Int)]), by dsimp only; omega, ?_⟩ (by dsimp only; omega) zSub (by simp) zFsub
            dsimp only
            rw [← hl, limbs_pos hn0, List.append_assoc]; rfl
    · intro u
      refine c_isRow (.own (.head _)) fun hsu _ => ?_
      all_goals ((try refine zR ?_) <;> (repeat' (with_reducible first | refine And.intro ?_ ?_ | intro _)))
      refine ends_take (L' := .box b2 [.int .i64 (sgn v), u] 46 :: .row u 2 1 (limbs v.natAbs).length ((limbs v.natAbs).map (Value.int .i64)) :: R) zTake ?_
      refine e_res rfl zRes _ [] (fun _ h => .tail _ h) (fun _ h => h.apart.2) fsub_nil ?_
      unfold PWhole
      rw [if_pos hlt]
      exact ⟨u, rfl, rfl, rfl⟩
  · have hb : ¬ blen v.natAbs ≤ 4800 := fun h => by have := blen_le.1 h; omega
    all_goals ((try refine zR ?_) <;> (repeat' (with_reducible first | refine And.intro ?_ ?_ | intro _)))
    all_goals (first | (exfalso; omega) | skip)
    refine e_res rfl zRes _ [] (fun _ h => .tail _ h) (fun _ h => h.apart.2) fsub_nil ?_
    unfold PWhole
    rw [if_neg (by omega)]
    exact ⟨rfl, rfl, rfl⟩
end Go.Proofs.YtbllgmcpebifhaaGreatDoor.K
end

section
/- Decimal texts, read into large numbers. -/
namespace Go.Proofs.YtbllgmcpebifhaaGreatDoor.K
open Go Go.RowKit
set_option linter.all false
set_option maxRecDepth 4000
set_option maxHeartbeats 1000000
set_option exponentiation.threshold 8000

theorem readBig_spec (t : List UInt8) (hd : ∀ c ∈ body t, isd c) (hne : body t ≠ []) (hl : (body t).length ≤ 2000) :
    Spec Tryz.prog 190 [.string ⟨t.toArray⟩] [] [] (fun r L' F' => ∃ b mag, r = .tuple #[ptr b, .bool true] ∧ L' = [oInt b (tval t) mag] ∧ F' = [fDig mag (tval t).natAbs]) := by
  refine enter Tryz.func190 Tryz.ntmps190 rfl (by kernel_rfl) zCon rfl fun G => ?_
  obtain ⟨c, r, rfl⟩ : ∃ c r, t = c :: r := by
    cases t with
    | nil => exact absurd rfl hne
    | cons c r => exact ⟨c, r, rfl⟩
  have hneg : isNeg (c :: r) = decide ((c.toNat : Int) = 45) := by
    unfold isNeg
    by_cases h : c = 45
    · subst h; simp
    · have h45 : (45 : UInt8).toNat = 45 := rfl
      have : ¬ (c.toNat : Int) = 45 := fun h' => h (UInt8.toNat_inj.1 (by omega))
      simp [h, this]
  have hbody : body (c :: r) = if (c.toNat : Int) = 45 then r else c :: r := by
    unfold body
    rw [hneg]
    by_cases h : (c.toNat : Int) = 45 <;> simp [h]
  have htv : tval (c :: r) = sv (decide ((c.toNat : Int) = 45)) (dval (body (c :: r))) := by
    unfold tval sv
    rw [hneg]
  have hlen : ((c :: r).length : Int) = r.length + 1 := by simp
  have hget0 : (c :: r)[0]? = some c := rfl
  rw [htv]
  revert hd hne hl hbody
  generalize body (c :: r) = D
  intro hd hne hl hbody
  have hl63 : (c :: r).length ≤ 3000 := by
    have := congrArg List.length hbody
    split at this <;> simp at this ⊢ <;> omega
  all_goals ((try refine zS ?_) <;> (repeat' (with_reducible first | refine And.intro ?_ ?_ | intro _)))
  refine l_guard rfl rfl (fun _ => ?_) (fun h => absurd h (by omega))
  all_goals ((try refine zS ?_) <;> (repeat' (with_reducible first | refine And.intro ?_ ?_ | intro _)))
  refine c_mid (κ := Unit) (fun _ => [(0, .string ⟨D.toArray⟩), (4, .bool (decide ((c.toNat : Int) = 45)))]) (fun _ => []) (fun _ => []) ?_ ?_
  · by_cases hc : (c.toNat : Int) = 45
    · rw [if_pos hc] at hbody
      subst hbody
      all_goals ((try refine zR ?_) <;> (repeat' (with_reducible first | refine And.intro ?_ ?_ | intro _)))
      all_goals (first | (exfalso; omega) | skip)
      exact e_out () zSub rfl (fun _ h => h)
    · rw [if_neg hc] at hbody
      subst hbody
      all_goals ((try refine zR ?_) <;> (repeat' (with_reducible first | refine And.intro ?_ ?_ | intro _)))
      all_goals (first | (exfalso; omega) | skip)
      exact e_out () zSub rfl (fun _ h => h)
  · intro _
    all_goals ((try refine zS ?_) <;> (repeat' (with_reducible first | refine And.intro ?_ ?_ | intro _)))
    rename_i b5
    refine l_call rfl zEvs rfl (newBig_spec 10 (by omega)) zTake zFsub ?_
    rintro _ L' F' ⟨b6, m6, rfl, rfl, rfl⟩
    refine l_nilDig ?_
    all_goals ((try refine zS ?_) <;> (repeat' (with_reducible first | refine And.intro ?_ ?_ | intro _)))
    have hten := ten_small
    have hD2000 : dval D < 10 ^ 2000 := Nat.lt_of_lt_of_le (dval_lt hd) (Nat.pow_le_pow_right (by omega) hl)
    refine c_while (ι := { p : Nat × Value // p.1 ≤ D.length }) (κ := Value)
      (fun p => [(23, .int .i64 (p.1.1 : Int)), (22, .int .i64 (D.length : Int)), (5, ptr b5), (6, ptr b6), (0, .string ⟨D.toArray⟩), (4, .bool (decide ((c.toNat : Int) = 45)))]) (fun p => [oInt b5 ((dval (D.take p.1.1) : Nat) : Int) p.1.2, oInt b6 10 m6]) (fun p => [fDig p.1.2 ((dval (D.take p.1.1) : Nat) : Int).natAbs, fDig m6 (10 : Int).natAbs]) (fun p => D.length - p.1.1)
      (fun _ => [(5, ptr b5), (0, .string ⟨D.toArray⟩), (4, .bool (decide ((c.toNat : Int) = 45)))]) (fun m => [oInt b5 ((dval D : Nat) : Int) m]) (fun m => [fDig m ((dval D : Nat) : Int).natAbs]) ⟨(0, .slice none 0 0), Nat.zero_le _⟩ (fun _ _ s => (s.take (L' := [oInt b5 0 (.slice none 0 0), oInt b6 10 m6]) zTake).start zSub rfl zFsub) ?_ ?_
    · rintro ⟨⟨i, m5⟩, hi⟩
      dsimp only at hi ⊢
      by_cases hil : i < D.length
      · have hisd := hd _ (List.getElem_mem hil)
        have hget : D[i]? = some D[i] := List.getElem?_eq_getElem hil
        have hsn : dval (D.take (i + 1)) = 10 * dval (D.take i) + (D[i].toNat - 48) := by rw [List.take_succ_eq_append_getElem hil, dval_snoc]
        have hv1 : dval (D.take (i + 1)) < 10 ^ 2000 := Nat.lt_of_lt_of_le (dval_lt fun c hc => hd c (List.mem_of_mem_take hc)) (Nat.pow_le_pow_right (by omega) (by rw [List.length_take]; omega))
        revert hisd hget hsn
        generalize D[i] = e
        intro hisd hget hsn
        obtain ⟨hi1, hi2⟩ := hisd
        all_goals ((try refine zR ?_) <;> (repeat' (with_reducible first | refine And.intro ?_ ?_ | intro _)))
        all_goals (first | (exfalso; omega) | skip)
        refine c_draw ([11], []) [] [0, 1, 2, 3, 5, 6, 7, 8, 9, 4, 10, 11] (by kernel_rfl) (by kernel_rfl) ?_
        all_goals ((try refine zD ?_) <;> (repeat' (with_reducible first | refine And.intro ?_ ?_ | intro _)))
        have h900 : (4294967296 : Nat) ^ 250 ≤ 4294967296 ^ 900 := Nat.pow_le_pow_right (by omega) (by omega)
        have hV : ((dval (D.take i) : Nat) : Int).natAbs < 4294967296 ^ 900 := by rw [Int.natAbs_natCast]; omega
        have hP : (((dval (D.take i) : Nat) : Int) * 10).natAbs < 4294967296 ^ 900 := by
          have : (((dval (D.take i) : Nat) : Int) * 10).natAbs = 10 * dval (D.take i) := by omega
          rw [this]; omega
        have h10 : ((10 : Int)).natAbs < 4294967296 ^ 900 := Nat.lt_of_lt_of_le (by decide : (10 : Int).natAbs < 4294967296 ^ 1) (Nat.pow_le_pow_right (by omega) (by omega))
        have he : ((e.toNat : Int) - 48).natAbs < 4294967296 ^ 900 := Nat.lt_of_lt_of_le (by omega : ((e.toNat : Int) - 48).natAbs < 4294967296 ^ 1) (Nat.pow_le_pow_right (by omega) (by omega))
        refine l_callI rfl zEvs rfl (Mul_spec b5 b5 b6 _ 10 _ _ m5 m6 [oInt b6 10 m6] zMem zMem hV h10) zTake zFsub fun m51 => ?_
        all_goals ((try refine zD ?_) <;> (repeat' (with_reducible first | refine And.intro ?_ ?_ | intro _)))
        refine l_call rfl zEvs rfl (newBig_spec ((e.toNat : Int) - 48) (by omega)) zTake zFsub ?_
        rintro _ L' F' ⟨b7, m7, rfl, rfl, rfl⟩
        all_goals ((try refine zD ?_) <;> (repeat' (with_reducible first | refine And.intro ?_ ?_ | intro _)))
        refine l_callI rfl zEvs rfl (Add_spec b5 b5 b7 _ ((e.toNat : Int) - 48) _ _ m51 m7 [oInt b7 ((e.toNat : Int) - 48) m7] zMem zMem hP he) zTake zFsub fun m52 => ?_
        all_goals ((try refine zD ?_) <;> (repeat' (with_reducible first | refine And.intro ?_ ?_ | intro _)))
        have ev : ((dval (D.take i) : Nat) : Int) * 10 + ((e.toNat : Int) - 48) = ((dval (D.take (i + 1)) : Nat) : Int) := by rw [hsn]; omega
        rw [ev]
        refine ends_take (L' := [oInt b5 ((dval (D.take (i + 1)) : Nat) : Int) m52, oInt b6 10 m6]) zTake ?_
        exact e_again ⟨(i + 1, m52), by dsimp only; omega⟩ (by dsimp only; omega) zSub rfl zFsub
      · all_goals ((try refine zR ?_) <;> (repeat' (with_reducible first | refine And.intro ?_ ?_ | intro _)))
        all_goals (first | (exfalso; omega) | skip)
        have : i = D.length := by omega
        subst this
        rw [List.take_length]
        refine ends_take (L' := [oInt b5 ((dval D : Nat) : Int) m5]) zTake ?_
        exact e_out m5 zSub rfl zFsub
    · intro m
      refine c_dig (mag := m) zMem fun d hdd => ?_
      all_goals ((try refine zR ?_) <;> (repeat' (with_reducible first | refine And.intro ?_ ?_ | intro _)))
      refine l_call rfl zEvs rfl (put_spec b5 _ (decide ((c.toNat : Int) = 45)) m m d hdd.1) zTake zFsub ?_
      rintro _ L' F' ⟨m', rfl, rfl, rfl⟩
      have hD63 : D.length ≤ 9223372036854775807 := by omega
      all_goals ((try refine zR ?_) <;> (repeat' (with_reducible first | refine And.intro ?_ ?_ | intro _)))
      have hpos : decide (0 < (D.length : Int)) = true := decide_eq_true (by have := List.length_pos_iff.2 hne; omega)
      rw [hdd.2.2, Int.natAbs_natCast]
      exact e_resT rfl zRes (.cons .head .nil) (fsub_cons (.head _) fsub_nil) ⟨b5, m', by simp only [retVal, hpos], rfl, rfl⟩
end Go.Proofs.YtbllgmcpebifhaaGreatDoor.K
end

section
/- ParseWhole. -/
namespace Go.Proofs.YtbllgmcpebifhaaGreatDoor.K
open Go Go.RowKit
set_option linter.all false
set_option maxRecDepth 4000
set_option maxHeartbeats 1000000
set_option exponentiation.threshold 8000

/-- What ParseWhole hands back. -/
def PPW (t : List UInt8) (r : Value) (L' : List Own) (F' : List Fact) : Prop :=
  (Spells t ∧ (tval t).natAbs < 2 ^ 4800 ∧ ∃ u, r = .tuple #[vWhole (sgn (tval t)) u, .int .i64 0] ∧ L' = [.row u 2 1 (limbs (tval t).natAbs).length ((limbs (tval t).natAbs).map (Value.int .i64))] ∧ F' = []) ∨
  (¬ (Spells t ∧ (tval t).natAbs < 2 ^ 4800) ∧ ∃ code, code ≠ 0 ∧ r = .tuple #[vWhole 0 (.slice none 0 0), .int .i64 code] ∧ L' = [] ∧ F' = [])
theorem PPW.bad {t : List UInt8} {code : Int} (h : ¬ (Spells t ∧ (tval t).natAbs < 2 ^ 4800)) (hc : code ≠ 0) : PPW t (.tuple #[vWhole 0 (.slice none 0 0), .int .i64 code]) [] [] := .inr ⟨h, code, hc, rfl, rfl, rfl⟩

theorem isNeg_cons (c : UInt8) (r : List UInt8) : isNeg (c :: r) = decide ((c.toNat : Int) = 45) := by
  unfold isNeg
  by_cases h : c = 45
  · subst h; simp
  · have h45 : (45 : UInt8).toNat = 45 := rfl
    have : ¬ (c.toNat : Int) = 45 := fun h' => h (UInt8.toNat_inj.1 (by omega))
    simp [h, this]
theorem body_cons (c : UInt8) (r : List UInt8) : body (c :: r) = if (c.toNat : Int) = 45 then r else c :: r := by
  unfold body
  rw [isNeg_cons]
  by_cases h : (c.toNat : Int) = 45 <;> simp [h]
theorem body_len (t : List UInt8) : (body t).length ≤ t.length := by
  unfold body
  split
  · simp
  · exact Nat.le_refl _

theorem ParseWhole_spec (t : List UInt8) (hl : t.length ≤ 400000000) : Spec Tryz.prog 120 [.string ⟨t.toArray⟩] [] [] (PPW t) := by
  refine enter Tryz.func120 Tryz.ntmps120 rfl (by kernel_rfl) zCon rfl fun G => ?_
  all_goals ((try refine zS ?_) <;> (repeat' (with_reducible first | refine And.intro ?_ ?_ | intro _)))
  rename_i b2
  cases t with
  | nil =>
    refine l_guard rfl rfl (fun h => absurd h (by decide)) (fun _ => ?_)
    all_goals ((try refine zR ?_) <;> (repeat' (with_reducible first | refine And.intro ?_ ?_ | intro _)))
    refine c_while (ι := Unit) (κ := Unit) (fun _ => [(21, .int .i64 0), (20, .int .i64 0), (0, .string ⟨[].toArray⟩), (4, .string ⟨[].toArray⟩), (2, ptr b2), (3, .int .i64 0)]) (fun _ => [.box b2 [.int .i64 0, .slice none 0 0] 46]) (fun _ => []) (fun _ => 0)
      (fun _ => [(0, .string ⟨[].toArray⟩), (4, .string ⟨[].toArray⟩), (2, ptr b2), (3, .int .i64 0)]) (fun _ => [.box b2 [.int .i64 0, .slice none 0 0] 46]) (fun _ => []) () (fun _ _ s => s.start zSub zRfl zFsub) ?_ ?_
    · intro _
      all_goals ((try refine zR ?_) <;> (repeat' (with_reducible first | refine And.intro ?_ ?_ | intro _)))
      all_goals (first | (exfalso; omega) | skip)
      exact e_out () zSub rfl (fun _ h => h)
    · intro _
      all_goals ((try refine zR ?_) <;> (repeat' (with_reducible first | refine And.intro ?_ ?_ | intro _)))
      all_goals first | (exfalso; simp_all; done) | skip
      refine e_res rfl zRes [] [] (fun _ h => by cases h) (fun _ _ => trivial) fsub_nil ?_
      exact PPW.bad (code := 6) (fun h => h.1.1.1 rfl) (by decide)
  | cons c r =>
  have hlen : ((c :: r).length : Int) = r.length + 1 := by simp
  have hget0 : (c :: r)[0]? = some c := rfl
  refine l_guard rfl rfl (fun _ => ?_) (fun h => absurd h (by omega))
  all_goals ((try refine zS ?_) <;> (repeat' (with_reducible first | refine And.intro ?_ ?_ | intro _)))
  refine c_mid (κ := Unit) (fun _ => [(0, .string ⟨(c :: r).toArray⟩), (4, .string ⟨(body (c :: r)).toArray⟩), (2, ptr b2), (3, .int .i64 0)]) (fun _ => [.box b2 [.int .i64 0, .slice none 0 0] 46]) (fun _ => []) ?_ ?_
  · rw [body_cons]
    by_cases hc : (c.toNat : Int) = 45
    · rw [if_pos hc]
      all_goals ((try refine zR ?_) <;> (repeat' (with_reducible first | refine And.intro ?_ ?_ | intro _)))
      all_goals (first | (exfalso; omega) | skip)
      exact e_out () zSub rfl (fun _ h => h)
    · rw [if_neg hc]
      all_goals ((try refine zR ?_) <;> (repeat' (with_reducible first | refine And.intro ?_ ?_ | intro _)))
      all_goals (first | (exfalso; omega) | skip)
      exact e_out () zSub rfl (fun _ h => h)
  intro _
  clear hlen hget0
  revert hl
  generalize c :: r = t
  intro hl
  have hDl := body_len t
  obtain ⟨D, hD⟩ : ∃ D, body t = D := ⟨_, rfl⟩
  rw [hD] at hDl ⊢
  all_goals ((try refine zS ?_) <;> (repeat' (with_reducible first | refine And.intro ?_ ?_ | intro _)))
  refine c_while (ι := { i : Nat // i ≤ D.length ∧ ∀ c ∈ D.take i, isd c }) (κ := { _u : Unit // ∀ c ∈ D, isd c })
    (fun i => [(21, .int .i64 (i.1 : Int)), (20, .int .i64 (D.length : Int)), (0, .string ⟨t.toArray⟩), (4, .string ⟨D.toArray⟩), (2, ptr b2), (3, .int .i64 0)]) (fun _ => [.box b2 [.int .i64 0, .slice none 0 0] 46]) (fun _ => []) (fun i => D.length - i.1)
    (fun _ => [(0, .string ⟨t.toArray⟩), (4, .string ⟨D.toArray⟩), (2, ptr b2), (3, .int .i64 0)]) (fun _ => [.box b2 [.int .i64 0, .slice none 0 0] 46]) (fun _ => []) ⟨0, Nat.zero_le _, by simp⟩ (fun _ _ s => s.start zSub zRfl zFsub) ?_ ?_
  · rintro ⟨i, hi, hpre⟩
    dsimp only
    by_cases hil : i < D.length
    · have hget : D[i]? = some D[i] := List.getElem?_eq_getElem hil
      have hmem : D[i] ∈ D := List.getElem_mem hil
      have htk : D.take (i + 1) = D.take i ++ [D[i]] := List.take_succ_eq_append_getElem hil
      revert hget hmem htk
      generalize D[i] = e
      intro hget hmem htk
      have hbad : ¬ isd e → ¬ (Spells t ∧ (tval t).natAbs < 2 ^ 4800) := fun h h' => h (h'.1.1.2.1 e (hD ▸ hmem))
      all_goals ((try refine zR ?_) <;> (repeat' (with_reducible first | refine And.intro ?_ ?_ | intro _)))
      all_goals (first | (exfalso; omega) | skip)
      · refine e_res rfl zRes [] [] (fun _ h => by cases h) (fun _ _ => trivial) fsub_nil ?_
        exact PPW.bad (code := 6) (hbad (by unfold isd; omega)) (by decide)
      · refine e_res rfl zRes [] [] (fun _ h => by cases h) (fun _ _ => trivial) fsub_nil ?_
        exact PPW.bad (code := 6) (hbad (by unfold isd; omega)) (by decide)
      · refine e_again ⟨i + 1, by omega, fun c hc => ?_⟩ (by dsimp only; omega) zSub rfl (fun _ h => h)
        rw [htk] at hc
        rcases List.mem_append.1 hc with h | h
        · exact hpre c h
        · rw [List.mem_singleton.1 h]; unfold isd; omega
    · all_goals ((try refine zR ?_) <;> (repeat' (with_reducible first | refine And.intro ?_ ?_ | intro _)))
      all_goals (first | (exfalso; omega) | skip)
      have : i = D.length := by omega
      subst this
      rw [List.take_length] at hpre
      exact e_out ⟨(), hpre⟩ zSub rfl (fun _ h => h)
  · rintro ⟨_, hdig⟩
    have key6 : (D = [] ∨ (1 < (D.length : Int) ∧ ∃ h : 0 < D.length, (D[0].toNat : Int) = 48) ∨ t = [45, 48]) → ¬ (Spells t ∧ (tval t).natAbs < 2 ^ 4800) := by
      rintro (h | ⟨h1, h2, h3⟩ | h) ⟨⟨hN, hz⟩, _⟩
      · exact hN.1 (hD.trans h)
      · refine hN.2.2 (by rw [hD]; omega) D[0] (by rw [hD, List.head?_eq_getElem?, List.getElem?_eq_getElem h2]) (by omega)
      · subst h
        exact hz rfl rfl
    have key3 : 2000 < (D.length : Int) → ¬ (Spells t ∧ (tval t).natAbs < 2 ^ 4800) := fun h ⟨h1, h2⟩ => long_big h1 (by rw [hD]; omega) h2
    have keyS : ¬ D = [] → (1 < (D.length : Int) → ∃ h : 0 < D.length, ¬ (D[0].toNat : Int) = 48) → ¬ t = [45, 48] → Spells t := by
      intro h1 h2 h3
      refine ⟨⟨by rw [hD]; exact h1, by rw [hD]; exact hdig, ?_⟩, ?_⟩
      · rw [hD]
        intro hl1 c hc
        obtain ⟨h4, h5⟩ := h2 (by omega)
        rw [List.head?_eq_getElem?, List.getElem?_eq_getElem h4] at hc
        rw [← Option.some.inj hc]; omega
      · intro hn h0
        rw [hD] at h0
        apply h3
        rw [body_eq t, hn, hD]
        by_cases hl1 : 1 < D.length
        · obtain ⟨h4, h5⟩ := h2 (by omega)
          have := dval_pos hdig h1 (fun c hc => by
            rw [List.head?_eq_getElem?, List.getElem?_eq_getElem h4] at hc
            rw [← Option.some.inj hc]; omega)
          have h6 : 0 < 10 ^ (D.length - 1) := Nat.pow_pos (by omega)
          omega
        · match D, h1, hl1, hdig, h0 with
          | [e], _, _, hdig, h0 =>
            have he := hdig e (.head _)
            have : dval [e] = e.toNat - 48 := by simp [dval]
            rw [this] at h0
            have h7 : e.toNat = 48 := by have := he.1; omega
            have : e = 48 := UInt8.toNat_inj.1 h7
            rw [this]; rfl
          | _ :: _ :: _, _, hl1, _, _ => simp at hl1
    all_goals ((try refine zR ?_) <;> (repeat' (with_reducible first | refine And.intro ?_ ?_ | intro _)))
    all_goals first | (exfalso; first | contradiction | omega) | skip
    all_goals first
      | (refine e_res rfl zRes [] [] (fun _ h => by cases h) (fun _ _ => trivial) fsub_nil ?_
         exact PPW.bad (code := 6) (key6 (by first | exact .inl (by assumption) | exact .inr (.inl ⟨by assumption, by omega, by assumption⟩) | exact .inr (.inr (by assumption)))) (by decide))
      | (refine e_res rfl zRes [] [] (fun _ h => by cases h) (fun _ _ => trivial) fsub_nil ?_
         exact PPW.bad (code := 3) (key3 (by assumption)) (by decide))
      | skip
    all_goals (
      have hSp : Spells t := keyS (by assumption) (by first | exact fun _ => ⟨by omega, by assumption⟩ | exact fun h => absurd h (by assumption)) (by assumption)
      have hlD : D.length ≤ 2000 := by omega
      have hB : (tval t).natAbs < 4294967296 ^ 900 := by
        rw [tval_abs, hD]
        have h1 : dval D < 10 ^ 2000 := Nat.lt_of_lt_of_le (dval_lt hdig) (Nat.pow_le_pow_right (by omega) hlD)
        have h2 : (4294967296 : Nat) ^ 250 ≤ 4294967296 ^ 900 := Nat.pow_le_pow_right (by omega) (by omega)
        have h3 := ten_small
        omega
      refine l_call rfl zEvs rfl (readBig_spec t (by rw [hD]; exact hdig) (by rw [hD]; assumption) (by rw [hD]; exact hlD)) zTake zFsub ?_
      rintro _ L' F' ⟨bx, mx, rfl, rfl, rfl⟩
      all_goals ((try refine zR ?_) <;> (repeat' (with_reducible first | refine And.intro ?_ ?_ | intro _)))
      refine l_call rfl zEvs rfl (whole_spec bx (tval t) mx [oInt bx (tval t) mx] zMem hB) zTake zFsub ?_
      rintro rv L' F' hW
      unfold PWhole at hW
      by_cases h4800 : (tval t).natAbs < 2 ^ 4800
      · rw [if_pos h4800] at hW
        obtain ⟨u, rfl, rfl, rfl⟩ := hW
        refine l_isRow (v := u) (.own zMem) fun hsu _ => ?_
        all_goals ((try refine zR ?_) <;> (repeat' (with_reducible first | refine And.intro ?_ ?_ | intro _)))
        refine ends_take (L' := [.box b2 [.int .i64 (sgn (tval t)), u] 46, .row u 2 1 (limbs (tval t).natAbs).length ((limbs (tval t).natAbs).map (Value.int .i64))]) zTake ?_
        refine e_res rfl zRes _ [] (fun _ h => .tail _ h) (fun _ h => h.apart.2) fsub_nil ?_
        exact .inl ⟨hSp, h4800, u, rfl, rfl, rfl⟩
      · rw [if_neg h4800] at hW
        obtain ⟨rfl, rfl, rfl⟩ := hW
        all_goals ((try refine zR ?_) <;> (repeat' (with_reducible first | refine And.intro ?_ ?_ | intro _)))
        refine e_res rfl zRes [] [] (fun _ h => by cases h) (fun _ _ => trivial) fsub_nil ?_
        exact PPW.bad (code := 3) (fun h => h4800 h.2) (by decide))
end Go.Proofs.YtbllgmcpebifhaaGreatDoor.K
end
