/- A whole number out of a value. -/
import Derived.Test.YtbllgmcpebifhaaGreatDoorZGf
namespace Go.Proofs.YtbllgmcpebifhaaGreatDoor.K
open Go Go.RowKit
set_option linter.all false
set_option maxRecDepth 4000
set_option maxHeartbeats 1000000
set_option exponentiation.threshold 8000

/-- A whole number in limbs, with its own row; R stays. -/
def PWhole (v : Int) (R : List Own) (r : Value) (L' : List Own) (F' : List Fact) : Prop :=
  if v.natAbs < 2 ^ 4800 then ∃ u, r = .tuple #[vWhole (sgn v) u, .int .i64 0] ∧ L' = .row u 2 1 (limbs v.natAbs).length ((limbs v.natAbs).map (Value.int .i64)) :: R ∧ F' = []
  else r = .tuple #[vWhole 0 (.slice none 0 0), .int .i64 3] ∧ L' = R ∧ F' = []

theorem two4800 : (2 : Nat) ^ 4800 = 4294967296 ^ 150 := by rw [show (4294967296 : Nat) = 2 ^ 32 by decide, ← Nat.pow_mul]

theorem Rsh24_spec (z x : Nat) (v : Int) (n0 : Bool) (m0 mx : Value) (R : List Own) (hx : oInt x v mx ∈ oBig z n0 m0 :: R) (hv : v.natAbs < 4294967296 ^ 1000) (h0 : 0 ≤ v) :
    Spec Tryz.prog 182 [ptr z, ptr x, .int .u64 24] (oBig z n0 m0 :: R) [fDig mx v.natAbs] (PInt z (v / 16777216) R) := Rsh_spec z x v n0 m0 mx R 0 24 (by omega) (by omega) hx hv h0
theorem Lsh24_spec (z x : Nat) (v : Int) (n0 : Bool) (m0 mx : Value) (R : List Own) (hx : oInt x v mx ∈ oBig z n0 m0 :: R) (hv : v.natAbs < 4294967296 ^ 1000) :
    Spec Tryz.prog 229 [ptr z, ptr x, .int .u64 24] (oBig z n0 m0 :: R) [fDig mx v.natAbs] (PInt z (v * 16777216) R) := Lsh_spec z x v n0 m0 mx R 0 24 (by omega) (by omega) hx hv
theorem c_nilRow {G : Ctx} {n : Nat} {P : Program} {Q : Post} {m : Regs} {L : List Own} {F : List Fact} {c : Code} {e : TypeId} (s : Nat) (h : RunC G n P c Q m (.row (.slice none 0 0) e s 0 [] :: L) F) : RunC G n P c Q m L F :=
  fun a w st => h a w (st.add (Keep.refl _ _) (World.ownsRow_nil w 0 e s) fun x hx => by simp [Own.key, Value.ownBlock] at hx)

theorem whole_spec (x : Nat) (v : Int) (mx : Value) (R : List Own) (hx : oInt x v mx ∈ R) (hv : v.natAbs < 4294967296 ^ 900) :
    Spec Tryz.prog 181 [ptr x] R [fDig mx v.natAbs] (PWhole v R) := by
  refine enter Tryz.func181 Tryz.ntmps181 rfl (by kernel_rfl) zCon rfl fun G => ?_
  have h2000 : v.natAbs < 4294967296 ^ 2000 := Nat.lt_of_lt_of_le hv (Nat.pow_le_pow_right (by omega) (by omega))
  all_goals ((try refine zS ?_) <;> (repeat' (with_reducible first | refine And.intro ?_ ?_ | intro _)))
  rename_i b2
  refine l_callVA rfl zEvs rfl (BitLen_spec x v mx _ (.tail _ hx) h2000) zFsub ?_
  rcases Nat.lt_or_ge v.natAbs (2 ^ 4800) with hlt | hge
  · have hb : blen v.natAbs ≤ 4800 := blen_le.2 hlt
    all_goals ((try refine zR ?_) <;> (repeat' (with_reducible first | refine And.intro ?_ ?_ | intro _)))
    all_goals (first | (exfalso; omega) | skip)
    refine l_callVA rfl zEvs rfl (Sign_spec x v mx _ (.tail _ hx)) zFsub ?_
    all_goals ((try refine zR ?_) <;> (repeat' (with_reducible first | refine And.intro ?_ ?_ | intro _)))
    rename_i b14
    refine l_callIA rfl zEvs rfl (Abs_spec b14 x v false _ mx _ (.tail _ (.tail _ hx)) h2000) zFsub fun mr => ?_
    all_goals ((try refine zR ?_) <;> (repeat' (with_reducible first | refine And.intro ?_ ?_ | intro _)))
    rename_i b4
    refine c_nilRow (e := 2) 1 ?_
    refine c_while (ι := { p : Nat × Value × Nat × Value × List Int // p.2.2.1 ≤ v.natAbs ∧ p.2.2.2.2 ++ limbs p.2.2.1 = limbs v.natAbs }) (κ := Value)
      (fun p => [(5, ptr p.1.1), (4, ptr b4), (3, .int .i64 0), (2, ptr b2)]) (fun p => .row p.1.2.2.2.1 2 1 p.1.2.2.2.2.length (p.1.2.2.2.2.map (Value.int .i64)) :: .box b4 [.int .i64 (sgn v), p.1.2.2.2.1] 46 :: oInt p.1.1 (p.1.2.2.1 : Int) p.1.2.1 :: .box b2 [.int .i64 0, .slice none 0 0] 46 :: R) (fun p => [fDig p.1.2.1 ((p.1.2.2.1 : Int)).natAbs]) (fun p => p.1.2.2.1)
      (fun _ => [(4, ptr b4), (3, .int .i64 0), (2, ptr b2)]) (fun u => .row u 2 1 (limbs v.natAbs).length ((limbs v.natAbs).map (Value.int .i64)) :: .box b4 [.int .i64 (sgn v), u] 46 :: .box b2 [.int .i64 0, .slice none 0 0] 46 :: R) (fun _ => []) ⟨(b14, mr, v.natAbs, .slice none 0 0, []), Nat.le_refl _, rfl⟩ (fun _ _ s => s.start zSub zRfl zFsub) ?_ ?_
    · rintro ⟨⟨b, mr, n, u, l⟩, hn, hl⟩
      dsimp only at hn hl ⊢
      have hn900 : ((n : Int)).natAbs < 4294967296 ^ 900 := by rw [Int.natAbs_natCast]; exact Nat.lt_of_le_of_lt hn hv
      have hn1000 : ((n : Int)).natAbs < 4294967296 ^ 1000 := Nat.lt_of_lt_of_le hn900 (Nat.pow_le_pow_right (by omega) (by omega))
      have hll : l.length ≤ 200 := by
        have h1 := limbs_len_le 200 v.natAbs (by rw [show (16777216 : Nat) = 2 ^ 24 by decide, ← Nat.pow_mul]; exact hlt)
        have h2 := congrArg List.length hl
        rw [List.length_append] at h2
        omega
      all_goals ((try refine zR ?_) <;> (repeat' (with_reducible first | refine And.intro ?_ ?_ | intro _)))
      refine l_callVA rfl zEvs rfl (Sign_spec b n mr _ zMem) zFsub ?_
      by_cases hn0 : n = 0
      · subst hn0
        all_goals ((try refine zR ?_) <;> (repeat' (with_reducible first | refine And.intro ?_ ?_ | intro _)))
        refine ends_take (L' := .row u 2 1 l.length (l.map (Value.int .i64)) :: .box b4 [.int .i64 (sgn v), u] 46 :: .box b2 [.int .i64 0, .slice none 0 0] 46 :: R) zTake ?_
        rw [limbs_zero, List.append_nil] at hl
        subst hl
        exact e_out u zSub rfl (fun _ h => by cases h)
      · have hs : sgn (n : Int) = 1 := by unfold sgn; rw [if_neg (by omega), if_neg (by omega)]
        rw [hs]
        all_goals ((try refine zR ?_) <;> (repeat' (with_reducible first | refine And.intro ?_ ?_ | intro _)))
        rename_i b20
        refine l_callI rfl zEvs rfl (Rsh24_spec b20 b n _ _ mr [oInt b n mr] zMem hn1000 (by omega)) zTake zFsub fun mh => ?_
        have e : (n : Int) / 16777216 = ((n / 16777216 : Nat) : Int) := by omega
        rw [e]
        all_goals ((try refine zS ?_) <;> (repeat' (with_reducible first | refine And.intro ?_ ?_ | intro _)))
        refine c_draw ([12], []) [.box b4 [.int .i64 (sgn v), u] 46] [0, 1, 3, 5, 2, 4, 6, 7, 8, 9, 10, 11, 12] (by kernel_rfl) (by kernel_rfl) ?_
        all_goals ((try refine zD ?_) <;> (repeat' (with_reducible first | refine And.intro ?_ ?_ | intro _)))
        have hh900 : (((n / 16777216 : Nat) : Int) * 16777216).natAbs < 4294967296 ^ 900 := by
          have : (((n / 16777216 : Nat) : Int) * 16777216).natAbs ≤ ((n : Int)).natAbs := by omega
          exact Nat.lt_of_le_of_lt this hn900
        have hh1000 : (((n / 16777216 : Nat) : Int)).natAbs < 4294967296 ^ 1000 := by
          have : (((n / 16777216 : Nat) : Int)).natAbs ≤ ((n : Int)).natAbs := by omega
          exact Nat.lt_of_le_of_lt this hn1000
        refine a_two (k := 4) [4, 6, 7, 8, 9, 10, 11, 12] [2, 6, 7, 8, 9, 10, 11, 12] rfl rfl (.inl (by decide +kernel)) rfl rfl ?_ ?_
        · all_goals ((try refine zD ?_) <;> (repeat' (with_reducible first | refine And.intro ?_ ?_ | intro _)))
          rename_i b25 b27
          refine l_callI rfl zEvs rfl (Lsh24_spec b27 b20 _ _ _ mh [oInt b20 ((n / 16777216 : Nat) : Int) mh] zMem hh1000) zTake zFsub fun ml => ?_
          all_goals ((try refine zD ?_) <;> (repeat' (with_reducible first | refine And.intro ?_ ?_ | intro _)))
          refine l_callI rfl zEvs rfl (Sub_spec b25 b b27 _ _ false _ mr ml [oInt b n mr, oInt b27 (((n / 16777216 : Nat) : Int) * 16777216) ml] zMem zMem hn900 hh900) zTake zFsub fun ms => ?_
          all_goals ((try refine zD ?_) <;> (repeat' (with_reducible first | refine And.intro ?_ ?_ | intro _)))
          refine l_callV rfl zEvs rfl (Int64_spec b25 _ ms [oInt b25 ((n : Int) - ((n / 16777216 : Nat) : Int) * 16777216) ms] zMem (by omega)) zTake zFsub ?_
          all_goals ((try refine zD ?_) <;> (repeat' (with_reducible first | refine And.intro ?_ ?_ | intro _)))
          rename_i _ u'
          refine l_isRow (v := u') (.own zMem) fun hsu _ => ?_
          all_goals ((try refine zD ?_) <;> (repeat' (with_reducible first | refine And.intro ?_ ?_ | intro _)))
          have el : (n : Int) - ((n / 16777216 : Nat) : Int) * 16777216 = ((n % 16777216 : Nat) : Int) := by omega
          rw [el]
          refine ends_take (L' := .row u' 2 1 (l.length + 1) ((l ++ [((n % 16777216 : Nat) : Int)]).map (Value.int .i64)) :: .box b4 [.int .i64 (sgn v), u'] 46 :: oInt b20 ((n / 16777216 : Nat) : Int) mh :: .box b2 [.int .i64 0, .slice none 0 0] 46 :: R) zTake ?_
          refine e_again ⟨(b20, mh, n / 16777216, u', l ++ [((n % 16777216 : Nat) : Int)]), by dsimp only; omega, ?_⟩ (by dsimp only; omega) zSub (by simp) zFsub
          dsimp only
          rw [← hl, limbs_pos hn0, List.append_assoc]; rfl
        · all_goals ((try refine zD ?_) <;> (repeat' (with_reducible first | refine And.intro ?_ ?_ | intro _)))
          rename_i b27
          refine a_two (k := 6) [6, 7, 8, 9, 10, 11, 12] [2, 7, 8, 9, 10, 11, 12] rfl rfl (.inl (by decide +kernel)) rfl rfl ?_ ?_
          · all_goals ((try refine zD ?_) <;> (repeat' (with_reducible first | refine And.intro ?_ ?_ | intro _)))
            rename_i b25
            refine l_callI rfl zEvs rfl (Lsh24_spec b27 b20 _ _ _ mh [oInt b20 ((n / 16777216 : Nat) : Int) mh] zMem hh1000) zTake zFsub fun ml => ?_
            all_goals ((try refine zD ?_) <;> (repeat' (with_reducible first | refine And.intro ?_ ?_ | intro _)))
            refine l_callI rfl zEvs rfl (Sub_spec b25 b b27 _ _ false _ mr ml [oInt b n mr, oInt b27 (((n / 16777216 : Nat) : Int) * 16777216) ml] zMem zMem hn900 hh900) zTake zFsub fun ms => ?_
            all_goals ((try refine zD ?_) <;> (repeat' (with_reducible first | refine And.intro ?_ ?_ | intro _)))
            refine l_callV rfl zEvs rfl (Int64_spec b25 _ ms [oInt b25 ((n : Int) - ((n / 16777216 : Nat) : Int) * 16777216) ms] zMem (by omega)) zTake zFsub ?_
            all_goals ((try refine zD ?_) <;> (repeat' (with_reducible first | refine And.intro ?_ ?_ | intro _)))
            rename_i _ u'
            refine l_isRow (v := u') (.own zMem) fun hsu _ => ?_
            all_goals ((try refine zD ?_) <;> (repeat' (with_reducible first | refine And.intro ?_ ?_ | intro _)))
            have el : (n : Int) - ((n / 16777216 : Nat) : Int) * 16777216 = ((n % 16777216 : Nat) : Int) := by omega
            rw [el]
            refine ends_take (L' := .row u' 2 1 (l.length + 1) ((l ++ [((n % 16777216 : Nat) : Int)]).map (Value.int .i64)) :: .box b4 [.int .i64 (sgn v), u'] 46 :: oInt b20 ((n / 16777216 : Nat) : Int) mh :: .box b2 [.int .i64 0, .slice none 0 0] 46 :: R) zTake ?_
            refine e_again ⟨(b20, mh, n / 16777216, u', l ++ [((n % 16777216 : Nat) : Int)]), by dsimp only; omega, ?_⟩ (by dsimp only; omega) zSub (by simp) zFsub
            dsimp only
            rw [← hl, limbs_pos hn0, List.append_assoc]; rfl
          · refine l_callI rfl zEvs rfl (Lsh24_spec b27 b20 _ _ _ mh [oInt b20 ((n / 16777216 : Nat) : Int) mh] zMem hh1000) zTake zFsub fun ml => ?_
            all_goals ((try refine zD ?_) <;> (repeat' (with_reducible first | refine And.intro ?_ ?_ | intro _)))
            rename_i b25
            refine l_callI rfl zEvs rfl (Sub_spec b25 b b27 _ _ false _ mr ml [oInt b n mr, oInt b27 (((n / 16777216 : Nat) : Int) * 16777216) ml] zMem zMem hn900 hh900) zTake zFsub fun ms => ?_
            all_goals ((try refine zD ?_) <;> (repeat' (with_reducible first | refine And.intro ?_ ?_ | intro _)))
            refine l_callV rfl zEvs rfl (Int64_spec b25 _ ms [oInt b25 ((n : Int) - ((n / 16777216 : Nat) : Int) * 16777216) ms] zMem (by omega)) zTake zFsub ?_
            all_goals ((try refine zD ?_) <;> (repeat' (with_reducible first | refine And.intro ?_ ?_ | intro _)))
            rename_i _ u'
            refine l_isRow (v := u') (.own zMem) fun hsu _ => ?_
            all_goals ((try refine zD ?_) <;> (repeat' (with_reducible first | refine And.intro ?_ ?_ | intro _)))
            have el : (n : Int) - ((n / 16777216 : Nat) : Int) * 16777216 = ((n % 16777216 : Nat) : Int) := by omega
            rw [el]
            refine ends_take (L' := .row u' 2 1 (l.length + 1) ((l ++ [((n % 16777216 : Nat) : Int)]).map (Value.int .i64)) :: .box b4 [.int .i64 (sgn v), u'] 46 :: oInt b20 ((n / 16777216 : Nat) : Int) mh :: .box b2 [.int .i64 0, .slice none 0 0] 46 :: R) zTake ?_
            refine e_again ⟨(b20, mh, n / 16777216, u', l ++ [((n % 16777216 : Nat) : Int)]), by dsimp only; omega, ?_⟩ (by dsimp only; omega) zSub (by simp) zFsub
            dsimp only
            rw [← hl, limbs_pos hn0, List.append_assoc]; rfl
    · intro u
      refine c_isRow (.own (.head _)) fun hsu _ => ?_
      all_goals ((try refine zR ?_) <;> (repeat' (with_reducible first | refine And.intro ?_ ?_ | intro _)))
      refine ends_take (L' := .box b2 [.int .i64 (sgn v), u] 46 :: .row u 2 1 (limbs v.natAbs).length ((limbs v.natAbs).map (Value.int .i64)) :: R) zTake ?_
      refine e_res rfl zRes _ [] (fun _ h => .tail _ h) (fun _ h => h.apart.2) fsub_nil ?_
      unfold PWhole
      rw [if_pos hlt]
      exact ⟨u, rfl, rfl, rfl⟩
  · have hb : ¬ blen v.natAbs ≤ 4800 := fun h => by have := blen_le.1 h; omega
    all_goals ((try refine zR ?_) <;> (repeat' (with_reducible first | refine And.intro ?_ ?_ | intro _)))
    all_goals (first | (exfalso; omega) | skip)
    refine e_res rfl zRes _ [] (fun _ h => .tail _ h) (fun _ h => h.apart.2) fsub_nil ?_
    unfold PWhole
    rw [if_neg (by omega)]
    exact ⟨rfl, rfl, rfl⟩
end Go.Proofs.YtbllgmcpebifhaaGreatDoor.K
