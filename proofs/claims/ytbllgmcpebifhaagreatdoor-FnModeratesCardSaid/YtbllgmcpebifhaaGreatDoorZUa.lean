/- What the law of moderates asks: posts in one form, comparisons of lists of lists, sizes. -/
import Derived.Test.YtbllgmcpebifhaaGreatDoorZSy

section
namespace Go.Proofs.YtbllgmcpebifhaaGreatDoor.K
open Go Go.RowKit Ieee
set_option linter.all false
set_option maxRecDepth 10000
set_option maxHeartbeats 1000000

theorem row_list {w : World} {v : Value} {E : TypeId} {N : Nat} {l : List (Nat × Nat)} {M : Nat → Prop} (hr : w.ownsRow 0 E 1 v N (l.map cx)) (hM : ∀ b, v.ownBlock = some b → ¬ M b) : ListAt 1 rCx v l w M := by
  have hN : N = l.length := by have := hr.1; simpa using this.symm
  rcases hr.2 with ⟨hv, h0⟩ | ⟨b, cap, cur, hv, _, hh, h1, h2, h3, h4⟩
  · have : l = [] := List.eq_nil_of_length_eq_zero (by omega)
    exact .inl ⟨⟨none, hv⟩, this⟩
  · refine .inr ⟨b, 0, cap, cur, E, (0, 0), by rw [hv, hN], by omega, h2, hh, hM b (by simp [hv, Value.ownBlock]), by omega, fun i x hx => ?_⟩
    have hi : i < l.length := (List.getElem?_eq_some_iff.1 hx).1
    have := frz_cx (l := l) [] w (fun _ => False) (fun φ h => by cases h) i x hx
    have e : ((l.map cx).drop (i * 1)).take 1 = (cur.toList.drop (0 + i * 1)).take 1 := by
      rw [← h4, List.drop_take, List.take_take, Nat.zero_add]
      congr 1
      omega
    rw [← e]
    exact this
/-- A row that is handed back may be told as a list. -/
theorem Spec.frzRow {P : Program} {f : FuncId} {args : List Value} {F : List Fact} {post : Value → List Own → List Fact → Prop} {R : Value → Value → List (Nat × Nat) → Prop} (h : Spec P f args [] F post)
    (k : ∀ v L' F', post v L' F' → ∃ u c out, v = .tuple #[u, c] ∧ ((L' = [oRow u out] ∧ F' = []) ∨ (L' = [] ∧ F' = [] ∧ u = .slice none 0 0 ∧ out = [])) ∧ R u c out) :
    Spec P f args [] F (fun v L' F' => ∃ u c out, v = .tuple #[u, c] ∧ R u c out ∧ L' = [] ∧ F' = [fList 1 rCx u out]) :=
  ⟨h.1, fun w X hX hL hF => (h.2 w X hX hL hF).mono fun e w' ⟨v, L', F', he, hp, hkeep, hown, hkeys, hfacts⟩ => by
    obtain ⟨u, c, out, rfl, hLF, hR⟩ := k v L' F' hp
    refine ⟨_, [], [fList 1 rCx u out], he, ⟨u, c, out, rfl, hR, rfl, rfl⟩, hkeep, ⟨fun o h => (by cases h), trivial⟩, fun x hx => (keys_nil x hx).elim, fun φ hφ => ?_⟩
    rw [List.mem_singleton.1 hφ]
    rcases hLF with ⟨rfl, rfl⟩ | ⟨rfl, rfl, rfl, rfl⟩
    · refine row_list (hown.all _ (.head _)) fun b hb hM => ?_
      rcases hM with hM | hM
      · rcases hkeys b ⟨_, .head _, hb⟩ with h1 | h1
        · exact keys_nil b h1
        · have := (hX b hM).1
          omega
      · exact keys_nil b hM
    · exact .inl ⟨⟨none, rfl⟩, rfl⟩⟩
theorem Spec.more {P : Program} {f : FuncId} {args : List Value} {L F : _} {post post' : Value → List Own → List Fact → Prop} (h : Spec P f args L F post)
    (k : ∀ v L' F', post v L' F' → ∃ F'', post' v L' F'' ∧ ∀ w M, (∀ φ, φ ∈ F' → φ.holds w M) → ∀ φ, φ ∈ F'' → φ.holds w M) : Spec P f args L F post' :=
  ⟨h.1, fun w X hX hL hF => (h.2 w X hX hL hF).mono fun e w' ⟨v, L', F', he, hp, hkeep, hown, hkeys, hfacts⟩ => by
    obtain ⟨F'', h1, h2⟩ := k v L' F' hp
    exact ⟨v, L', F'', he, h1, hkeep, hown, hkeys, h2 _ _ hfacts⟩⟩
/-- The separated numbers and their code. -/
def SepOut (l : List (Nat × Nat)) (code : Int) (out : List (Nat × Nat)) : Prop :=
  (listC l = 0 ∧ l.all fitC = true ∧ code = 0 ∧ SepR (l.map modC) out ∧ ∀ p ∈ out, Can p) ∨ (listC l = 0 ∧ l.all fitC = false ∧ code = 3 ∧ out = []) ∨ (listC l ≠ 0 ∧ code = listC l ∧ out = [])
theorem SepOut.uniq {l out out' : List (Nat × Nat)} {c c' : Int} (h : SepOut l c out) (h' : SepOut l c' out') : c = c' ∧ out = out' := by
  rcases h with ⟨a1, a2, a3, a4, a5⟩ | ⟨a1, a2, a3, a4⟩ | ⟨a1, a2, a3⟩ <;> rcases h' with ⟨b1, b2, b3, b4, b5⟩ | ⟨b1, b2, b3, b4⟩ | ⟨b1, b2, b3⟩
  · exact ⟨by rw [a3, b3], a4.uniq b4⟩
  · rw [a2] at b2; cases b2
  · exact absurd a1 b1
  · rw [a2] at b2; cases b2
  · exact ⟨by rw [a3, b3], by rw [a4, b4]⟩
  · exact absurd a1 b1
  · exact absurd b1 a1
  · exact absurd b1 a1
  · exact ⟨by rw [a2, b2], by rw [a3, b3]⟩
def PSepU (l : List (Nat × Nat)) (v : Value) (L' : List Own) (F' : List Fact) : Prop := ∃ u c out, v = .tuple #[u, c] ∧ (∃ code, c = .int .i64 code ∧ SepOut l code out) ∧ L' = [] ∧ F' = [fList 1 rCx u out]
theorem sepU {P : Program} {f : FuncId} {args : List Value} {F : List Fact} {l : List (Nat × Nat)} (h : Spec P f args [] F (PSepP l)) : Spec P f args [] F (PSepU l) :=
  h.frzRow (R := fun u c out => ∃ code, c = .int .i64 code ∧ SepOut l code out) fun v L' F' hp => by
    rcases hp with ⟨h1, ⟨h2, u, out, rfl, _, h3, h4, rfl, rfl⟩ | ⟨h2, rfl, rfl, rfl⟩⟩ | ⟨h1, rfl, rfl, rfl⟩
    · exact ⟨u, _, out, rfl, .inl ⟨rfl, rfl⟩, 0, rfl, .inl ⟨h1, h2, rfl, h3, h4⟩⟩
    · exact ⟨_, _, [], rfl, .inr ⟨rfl, rfl, rfl, rfl⟩, 3, rfl, .inr (.inl ⟨h1, h2, rfl, rfl⟩)⟩
    · exact ⟨_, _, [], rfl, .inr ⟨rfl, rfl, rfl, rfl⟩, _, rfl, .inr (.inr ⟨h1, rfl, rfl⟩)⟩
/-- The clusters and their code, in one form. -/
def clS (l : List (Nat × Nat)) (r : Nat) : List (List Nat) := if clC l r = 0 then cls (Jr l r) l.length l.length 0 (List.replicate l.length false) else []
def PClsU (l : List (Nat × Nat)) (r : Nat) (y : Value) (L' : List Own) (F' : List Fact) : Prop := ∃ v, y = .tuple #[v, .int .i64 (clC l r)] ∧ L' = [] ∧ F' = [fList 1 (rList 1 (rInt .i64)) v (qs (clS l r))]
theorem clsU {P : Program} {f : FuncId} {args : List Value} {F : List Fact} {l : List (Nat × Nat)} {r : Nat} (h : Spec P f args [] F (PCls l r)) : Spec P f args [] F (PClsU l r) :=
  h.more fun v L' F' hp => by
    rcases hp with ⟨h1, v, rfl, rfl, rfl⟩ | ⟨h1, rfl, rfl, rfl⟩
    · refine ⟨_, ⟨v, by rw [h1], rfl, rfl⟩, fun w M h φ hφ => ?_⟩
      have e : clS l r = cls (Jr l r) l.length l.length 0 (List.replicate l.length false) := by unfold clS; rw [if_pos h1]
      rw [e] at hφ
      exact h φ hφ
    · refine ⟨_, ⟨_, rfl, rfl, rfl⟩, fun w M h φ hφ => ?_⟩
      have e : clS l r = [] := by unfold clS; rw [if_neg h1]
      rw [e] at hφ
      rw [List.mem_singleton.1 hφ]
      exact .inl ⟨⟨none, rfl⟩, rfl⟩
theorem likeInts_spec (va vb : Value) (a : List Int) : Spec Tryz.prog 38 [va, vb] [] [fList 1 (rInt .i64) va a, fList 1 (rInt .i64) vb a] (Gives (.bool true)) := by
  refine enter Tryz.func38 Tryz.ntmps38 rfl (by kernel_rfl) zCon rfl fun G => ?_
  refine c_isList (v := va) zMem fun hsa => ?_
  refine c_isList (v := vb) zMem fun hsb => ?_
  all_goals ((try refine zR3 ?_) <;> (repeat' (with_reducible first | refine And.intro ?_ ?_ | intro _)))
  all_goals (first | (exfalso; omega) | skip)
  refine c_while (ι := {i : Nat // i ≤ a.length}) (κ := Unit) (fun i => [(5, .int .i64 (i.1 : Int)), (0, va), (1, vb)]) (fun _ => []) (fun _ => [fList 1 (rInt .i64) va a, fList 1 (rInt .i64) vb a]) (fun i => a.length - i.1)
    (fun _ => []) (fun _ => []) (fun _ => []) ⟨0, Nat.zero_le _⟩ (fun _ _ s => s.start zSub zRfl zFsub) ?_ ?_
  · rintro ⟨i, hi⟩
    dsimp only at hi ⊢
    by_cases hlt : i < a.length
    · obtain ⟨x, hx⟩ : ∃ x, a[i]? = some x := ⟨_, List.getElem?_eq_getElem hlt⟩
      all_goals ((try refine zR3 ?_) <;> (repeat' (with_reducible first | refine And.intro ?_ ?_ | intro _)))
      all_goals (first | (exfalso; omega) | skip)
      refine c_draw ([8], []) [] [0, 1, 2, 3, 4, 5, 6, 7, 8] (by kernel_rfl) (by kernel_rfl) ?_
      all_goals ((try refine zD3 ?_) <;> (repeat' (with_reducible first | refine And.intro ?_ ?_ | intro _)))
      all_goals (first | (exfalso; omega) | skip)
      exact e_again ⟨i + 1, by omega⟩ (by dsimp only; omega) zSub rfl zFsub
    · all_goals ((try refine zR3 ?_) <;> (repeat' (with_reducible first | refine And.intro ?_ ?_ | intro _)))
      all_goals (first | (exfalso; omega) | skip)
      exact e_out () zSub rfl (fun _ h => by cases h)
  · intro _
    all_goals ((try refine zR3 ?_) <;> (repeat' (with_reducible first | refine And.intro ?_ ?_ | intro _)))
    (refine e_gives rfl zRes ?_; first | rfl | (simp [retVal, *]; done) | (simp_all [retVal]; done) | (simp only [retVal]))
theorem lists9_spec (va vb : Value) (a : List (List Int)) : Spec Tryz.prog 21 [va, vb] [] [fList 1 (rList 1 (rInt .i64)) va a, fList 1 (rList 1 (rInt .i64)) vb a] (Gives (.bool true)) := by
  refine enter Tryz.func21 Tryz.ntmps21 rfl (by kernel_rfl) zCon rfl fun G => ?_
  refine c_isList (v := va) zMem fun hsa => ?_
  refine c_isList (v := vb) zMem fun hsb => ?_
  all_goals ((try refine zR3 ?_) <;> (repeat' (with_reducible first | refine And.intro ?_ ?_ | intro _)))
  all_goals (first | (exfalso; omega) | skip)
  refine c_while (ι := {i : Nat // i ≤ a.length}) (κ := Unit) (fun i => [(5, .int .i64 (i.1 : Int)), (0, va), (1, vb)]) (fun _ => []) (fun _ => [fList 1 (rList 1 (rInt .i64)) va a, fList 1 (rList 1 (rInt .i64)) vb a]) (fun i => a.length - i.1)
    (fun _ => []) (fun _ => []) (fun _ => []) ⟨0, Nat.zero_le _⟩ (fun _ _ s => s.start zSub zRfl zFsub) ?_ ?_
  · rintro ⟨i, hi⟩
    dsimp only at hi ⊢
    by_cases hlt : i < a.length
    · obtain ⟨x, hx⟩ : ∃ x, a[i]? = some x := ⟨_, List.getElem?_eq_getElem hlt⟩
      all_goals ((try refine zR3 ?_) <;> (repeat' (with_reducible first | refine And.intro ?_ ?_ | intro _)))
      all_goals (first | (exfalso; omega) | skip)
      refine c_draw ([8, 9], []) [] [0, 1, 2, 4, 5, 6, 3, 7, 8, 9] (by kernel_rfl) (by kernel_rfl) ?_
      all_goals ((try refine zD3 ?_) <;> (repeat' (with_reducible first | refine And.intro ?_ ?_ | intro _)))
      refine a_two (k := 7) [7, 8, 9] [3, 8, 9] rfl rfl (.inl (by decide +kernel)) rfl rfl ?_ ?_
      · refine l_loadLL rfl rfl zMem rfl hx rfl fun c1 => ?_
        all_goals ((try refine zD3 ?_) <;> (repeat' (with_reducible first | refine And.intro ?_ ?_ | intro _)))
        refine l_loadLL rfl rfl zMem rfl hx rfl fun c2 => ?_
        all_goals (((try refine zD3 ?_) <;> (repeat' (with_reducible first | refine And.intro ?_ ?_ | intro _))) <;> (repeat' ((first | ((with_reducible apply l_callP); exact rfl; exact zEvs; exact rfl; (with_reducible apply likeInts_spec _ _ x); (case hF => exact zFsub); (try any_goals (refine propId ?_; omega)))) <;> ((try refine zD3 ?_) <;> (repeat' (with_reducible first | refine And.intro ?_ ?_ | intro _))))))
        exact e_again ⟨i + 1, by omega⟩ (by dsimp only; omega) zSub rfl zFsub
      · refine l_loadLL rfl rfl zMem rfl hx rfl fun c1 => ?_
        all_goals ((try refine zD3 ?_) <;> (repeat' (with_reducible first | refine And.intro ?_ ?_ | intro _)))
        refine l_loadLL rfl rfl zMem rfl hx rfl fun c2 => ?_
        all_goals (((try refine zD3 ?_) <;> (repeat' (with_reducible first | refine And.intro ?_ ?_ | intro _))) <;> (repeat' ((first | ((with_reducible apply l_callP); exact rfl; exact zEvs; exact rfl; (with_reducible apply likeInts_spec _ _ x); (case hF => exact zFsub); (try any_goals (refine propId ?_; omega)))) <;> ((try refine zD3 ?_) <;> (repeat' (with_reducible first | refine And.intro ?_ ?_ | intro _))))))
        exact e_again ⟨i + 1, by omega⟩ (by dsimp only; omega) zSub rfl zFsub
    · all_goals ((try refine zR3 ?_) <;> (repeat' (with_reducible first | refine And.intro ?_ ?_ | intro _)))
      all_goals (first | (exfalso; omega) | skip)
      exact e_out () zSub rfl (fun _ h => by cases h)
  · intro _
    all_goals ((try refine zR3 ?_) <;> (repeat' (with_reducible first | refine And.intro ?_ ?_ | intro _)))
    (refine e_gives rfl zRes ?_; first | rfl | (simp [retVal, *]; done) | (simp_all [retVal]; done) | (simp only [retVal]))
theorem order_nz (r : Nat) : double.order 9223372036854775808 r = double.order 0 r := by
  unfold Format.order
  rw [read_zero, show double.read 9223372036854775808 = .number true 0 (-1074) by decide +kernel]
  cases double.read r with
  | number t n j =>
    have e : ∀ s k, signed s 0 k = 0 := fun s k => by cases s <;> simp [signed]
    simp only [Datum.order, e]
  | infinity t => rfl
  | nan t f => rfl
theorem leq_nz (r : Nat) : fcmp .leq 9223372036854775808 r = fcmp .leq 0 r := by
  show (double.order _ r == _ || double.order _ r == _) = (double.order _ r == _ || double.order _ r == _)
  rw [order_nz]
theorem leq_zero_word (s : Bool) (r : Nat) : fcmp .leq (double.word s 0) r = fcmp .leq 0 r := by
  cases s with
  | false => rfl
  | true => exact leq_nz r
theorem add_nz_aux (s t : Bool) (n : Nat) (j : Int) (r : Nat) : fcmp .leq (((Datum.sum (.number s 0 (-1074)) (.number t n j)).map double.write).getD NAN) r = fcmp .leq (((Datum.sum (.number false 0 (-1074)) (.number t n j)).map double.write).getD NAN) r := by
  have e : ∀ s k, signed s 0 k = 0 := fun s k => by cases s <;> simp [signed]
  have e1 : ∀ s : Bool, Datum.sum (.number s 0 (-1074)) (.number t n j) = some (.number (if signed t n (j - min (-1074) j).toNat = 0 then s && t else decide (signed t n (j - min (-1074) j).toNat < 0)) (signed t n (j - min (-1074) j).toNat).natAbs (min (-1074) j)) := fun s => by
    simp only [Datum.sum, e, Int.zero_add]
  rw [e1, e1, Option.map_some, Option.map_some, Option.getD_some, Option.getD_some]
  by_cases h0 : signed t n (j - min (-1074) j).toNat = 0
  · rw [if_pos h0, if_pos h0, h0]
    have ew : ∀ b, double.write (.number b (Int.natAbs 0) (min (-1074) j)) = double.word b 0 := fun b => rfl
    rw [ew, ew, leq_zero_word, leq_zero_word]
  · rw [if_neg h0, if_neg h0]
theorem add_nz (y r : Nat) : fcmp .leq (fop .add 9223372036854775808 y) r = fcmp .leq (fop .add 0 y) r := by
  have e : ∀ x, fop .add x y = (((double.read x).sum (double.read y)).map double.write).getD NAN := fun _ => rfl
  rw [e, e, read_zero, show double.read 9223372036854775808 = .number true 0 (-1074) by decide +kernel]
  cases double.read y with
  | number t n j => exact add_nz_aux true t n j r
  | infinity t => rfl
  | nan t f => rfl
theorem sum_comm' (a b : Datum) : a.sum b = b.sum a := by
  cases a with
  | nan s f => cases b <;> rfl
  | infinity s =>
    cases b with
    | nan t f => rfl
    | infinity t => cases s <;> cases t <;> rfl
    | number t n j => rfl
  | number s m i =>
    cases b with
    | nan t f => rfl
    | infinity t => rfl
    | number t n j =>
      simp only [Datum.sum]
      rw [Int.min_comm j i, Int.add_comm (signed t n (j - min i j).toNat), Bool.and_comm s t]
theorem add_comm' (x y : Nat) : fop .add x y = fop .add y x := by
  have e : ∀ x y, fop .add x y = (((double.read x).sum (double.read y)).map double.write).getD NAN := fun _ _ => rfl
  rw [e, e, sum_comm']
theorem add_nz' (y r : Nat) : fcmp .leq (fop .add y 9223372036854775808) r = fcmp .leq (fop .add y 0) r := by rw [add_comm', add_nz, add_comm']
/-- The same part, up to the sign of nought. -/
def Zq (x y : Nat) : Prop := nf x = nf y ∨ (nf x = 9223372036854775808 ∧ nf y = 0)
theorem Zq.add {x x' y y' : Nat} (h : Zq x x') (k : Zq y y') (r : Nat) : fcmp .leq (fop .add x y) r = fcmp .leq (fop .add x' y') r := by
  rw [← fop_l, ← fop_r, ← fop_l .add x' y', ← fop_r .add (nf x') y']
  rcases h with h | ⟨h1, h2⟩ <;> rcases k with k | ⟨k1, k2⟩
  · rw [h, k]
  · rw [h, k1, k2, add_nz']
  · rw [h1, h2, k, add_nz]
  · rw [h1, h2, k1, k2, add_nz, add_nz']
theorem zq_else {x : Nat} (h : fcmp .lss x 0 = false) : Zq x (fabs x) := by
  cases he : fcmp .eql x 0 with
  | false => exact .inl (by rw [abs_else h he, nf_fabs])
  | true =>
    have h1 := abs_eql he
    rcases zero_nf he with h2 | h2
    · exact .inl (by rw [h2, nf_fabs, h1])
    · exact .inr ⟨h2, by rw [nf_fabs, h1]⟩
theorem size9_spec (a b : Nat) (ha : a < 18446744073709551616) (hb : b < 18446744073709551616) : Spec Tryz.prog 22 [.complex .f64 a b] [] [] (PM (fun u : {y : Nat // ∀ r, fcmp .leq y r = fcmp .leq (csize (a, b)) r} => .float .f64 u.1) fun _ => []) := by
  have key : ∀ x y, Zq x (fabs a) → Zq y (fabs b) → ∀ u : FW (fop .add x y), ∀ r, fcmp .leq u.1 r = fcmp .leq (csize (a, b)) r := fun x y h1 h2 u r => by
    rw [u.cl]
    exact h1.add h2 r
  have ng : ∀ x, fcmp .lss x 0 = true → ∀ u : FW (fneg x), Zq u.1 (fabs x) := fun x h u => .inl (by rw [FW.nf, abs_lss h, nf_fabs])
  refine enter Tryz.func22 Tryz.ntmps22 rfl (by kernel_rfl) zCon rfl fun G => ?_
  all_goals ((try refine zR3 ?_) <;> (repeat' (with_reducible first | refine And.intro ?_ ?_ | intro _)))
  · rename_i h1 u1 h2 u2 u3
    exact e_pm ⟨_, key _ _ (ng _ h1 u1) (ng _ h2 u2) u3⟩ rfl zRes .nil rfl
  · rename_i h1 u1 h2 u3
    exact e_pm ⟨_, key _ _ (ng _ h1 u1) (zq_else h2) u3⟩ rfl zRes .nil rfl
  · rename_i h1 h2 u2 u3
    exact e_pm ⟨_, key _ _ (zq_else h1) (ng _ h2 u2) u3⟩ rfl zRes .nil rfl
  · rename_i h1 h2 u3
    exact e_pm ⟨_, key _ _ (zq_else h1) (zq_else h2) u3⟩ rfl zRes .nil rfl
end Go.Proofs.YtbllgmcpebifhaaGreatDoor.K
end

section
/- The labels of the clusters, in plain terms. -/
namespace Go.Proofs.YtbllgmcpebifhaaGreatDoor.K
open Go Go.RowKit Ieee
set_option linter.all false
set_option maxRecDepth 10000

theorem nodup_sub : ∀ (q F : List Nat), q.Nodup → (∀ x ∈ q, x ∈ F) → q.length ≤ F.length
  | [], _, _, _ => Nat.zero_le _
  | x :: r, F, hn, hs => by
    rw [List.nodup_cons] at hn
    have hx := hs x (.head _)
    have ih := nodup_sub r (F.erase x) hn.2 fun y hy => by
      have hne : y ≠ x := fun h => hn.1 (h ▸ hy)
      exact (List.mem_erase_of_ne hne).2 (hs y (.tail _ hy))
    have h3 := List.length_erase_of_mem hx
    have h4 := List.length_pos_of_mem hx
    rw [List.length_cons]
    omega
theorem clS_facts {l : List (Nat × Nat)} {r : Nat} (h : clC l r = 0) : (clS l r).flatten.Nodup ∧ (∀ g ∈ clS l r, ∀ x ∈ g, x < l.length) ∧ (∀ x, x < l.length → x ∈ (clS l r).flatten) ∧ (∀ g ∈ clS l r, ∀ x ∈ g, ∀ k, k < l.length → Jr l r x k = true → k ∈ g) ∧ (clS l r).flatten.length = l.length := by
  have e : clS l r = cls (Jr l r) l.length l.length 0 (List.replicate l.length false) := by unfold clS; rw [if_pos h]
  have hrep : ∀ x, x < l.length → (List.replicate l.length false).getD x true = false := fun x hx => by
    rw [List.getD_eq_getElem?_getD, List.getElem?_replicate, if_pos hx]; rfl
  obtain ⟨h1, h2, h3, h4⟩ := cls_facts (J := Jr l r) (n := l.length) (fun x k => Jr_sym l r x k) l.length 0 (List.replicate l.length false) (by omega) (by simp) (fun x hx => by omega) (fun x k hx hk hm _ => by rw [hrep x hx] at hm; cases hm)
  rw [e]
  have a1 : ∀ g ∈ cls (Jr l r) l.length l.length 0 (List.replicate l.length false), ∀ x ∈ g, x < l.length := fun g hg x hx => (h1 g hg x hx).1
  have a2 : ∀ x, x < l.length → x ∈ (cls (Jr l r) l.length l.length 0 (List.replicate l.length false)).flatten := fun x hx => h3 x hx (hrep x hx)
  refine ⟨h2, a1, a2, h4, ?_⟩
  have b1 := len_le l.length _ h2 (fun x hx => by
    obtain ⟨g, hg, hx⟩ := List.mem_flatten.1 hx
    exact a1 g hg x hx)
  have b2 := nodup_sub (List.range l.length) _ List.nodup_range (fun x hx => a2 x (List.mem_range.1 hx))
  rw [List.length_range] at b2
  omega
theorem flat_disj : ∀ (S : List (List Nat)), S.flatten.Nodup → ∀ (a b : Nat) (A B : List Nat), S[a]? = some A → S[b]? = some B → a < b → ∀ x, x ∈ A → x ∈ B → False
  | [], _, a, b, A, B, hA, _, _, _, _, _ => by simp at hA
  | C :: S, hn, a, b, A, B, hA, hB, hab, x, hxA, hxB => by
    rw [List.flatten_cons, List.nodup_append] at hn
    cases b with
    | zero => omega
    | succ b =>
      rw [List.getElem?_cons_succ] at hB
      cases a with
      | zero =>
        rw [List.getElem?_cons_zero] at hA
        injection hA with hA
        subst hA
        exact hn.2.2 x hxA x (List.mem_flatten.2 ⟨B, List.mem_of_getElem? hB, hxB⟩) rfl
      | succ a =>
        rw [List.getElem?_cons_succ] at hA
        exact flat_disj S hn.2.1 a b A B hA hB (by omega) x hxA hxB
structure Lab (S : List (List Nat)) (n g i : Nat) (lb : List Int) : Prop where
  len : lb.length = n
  old : ∀ (g' : Nat) (grp : List Nat) (x : Nat), S[g']? = some grp → x ∈ grp → g' < g → lb[x]? = some (g' : Int)
  now : ∀ (grp : List Nat) (x : Nat), S[g]? = some grp → x ∈ grp.take i → lb[x]? = some (g : Int)
theorem Lab.start (S : List (List Nat)) (n : Nat) : Lab S n 0 0 (List.replicate n 0) := ⟨by simp, fun g' grp x _ _ h => by omega, fun grp x _ h => by simp at h⟩
theorem Lab.step {S : List (List Nat)} {n g i : Nat} {lb : List Int} {grp : List Nat} {y : Nat} (h : Lab S n g i lb) (hn : S.flatten.Nodup) (hg : S[g]? = some grp) (hy : grp[i]? = some y) (hyn : y < n) : Lab S n g (i + 1) (lb.set y (g : Int)) := by
  have hym : y ∈ grp := List.mem_of_getElem? hy
  refine ⟨by rw [List.length_set]; exact h.len, fun g' grp' x h1 h2 h3 => ?_, fun grp' x h1 h2 => ?_⟩
  · rw [List.getElem?_set]
    by_cases hyx : y = x
    · subst hyx
      exact (flat_disj S hn g' g grp' grp h1 hg h3 y h2 hym).elim
    · rw [if_neg hyx]
      exact h.old g' grp' x h1 h2 h3
  · rw [hg] at h1
    injection h1 with h1
    subst h1
    rw [List.getElem?_set]
    by_cases hyx : y = x
    · rw [if_pos hyx, if_pos (by rw [h.len]; exact hyn)]
    · rw [if_neg hyx]
      rw [List.take_succ, hy] at h2
      rcases List.mem_append.1 h2 with h2 | h2
      · exact h.now grp x hg h2
      · simp at h2; exact absurd h2.symm hyx
theorem Lab.next {S : List (List Nat)} {n g : Nat} {lb : List Int} {grp : List Nat} (hg : S[g]? = some grp) (h : Lab S n g grp.length lb) : Lab S n (g + 1) 0 lb := by
  refine ⟨h.len, fun g' grp' x h1 h2 h3 => ?_, fun grp' x _ h2 => by simp at h2⟩
  by_cases hgg : g' = g
  · subst hgg
    rw [hg] at h1
    injection h1 with h1
    subst h1
    exact h.now grp x hg (by rw [List.take_length]; exact h2)
  · exact h.old g' grp' x h1 h2 (by omega)
/-- Joined ones have one label. -/
theorem Lab.same {l : List (Nat × Nat)} {r : Nat} {lb : List Int} (hc : clC l r = 0) (h : Lab (clS l r) l.length (clS l r).length 0 lb) {x k : Nat} (hx : x < l.length) (hk : k < l.length) (hj : Jr l r x k = true) : ∃ y, lb[x]? = some y ∧ lb[k]? = some y := by
  obtain ⟨_, _, h3, h4, _⟩ := clS_facts hc
  obtain ⟨g, hg, hxg⟩ := List.mem_flatten.1 (h3 x hx)
  have hkg := h4 g hg x hxg k hk hj
  obtain ⟨i, hi, e⟩ := List.getElem_of_mem hg
  have he : (clS l r)[i]? = some g := by rw [List.getElem?_eq_getElem hi, e]
  exact ⟨(i : Int), h.old i g x he hxg hi, h.old i g k he hkg hi⟩
theorem qs_get {S : List (List Nat)} {g : Nat} {grp : List Nat} (h : S[g]? = some grp) : (qs S)[g]? = some (qi grp) := by simp [qs, h]
theorem qs_len (S : List (List Nat)) : (qs S).length = S.length := by simp [qs]
def tot (S : List (List Nat)) (g : Nat) : Nat := (S.take g).flatten.length
theorem tot_step {S : List (List Nat)} {g : Nat} {grp : List Nat} (h : S[g]? = some grp) : tot S (g + 1) = tot S g + grp.length := by
  unfold tot
  rw [List.take_succ, h]
  simp
theorem tot_le (S : List (List Nat)) (g : Nat) : tot S g ≤ S.flatten.length := by
  unfold tot
  have h : S = S.take g ++ S.drop g := (List.take_append_drop g S).symm
  have h2 := congrArg (fun l => l.flatten.length) h
  simp only [List.flatten_append, List.length_append] at h2
  omega
theorem tot_end (S : List (List Nat)) : tot S S.length = S.flatten.length := by unfold tot; rw [List.take_length]
end Go.Proofs.YtbllgmcpebifhaaGreatDoor.K
end
