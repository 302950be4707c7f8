/- Clusters: the program's function. -/
import Derived.Test.YtbllgmcpebifhaaGreatDoorZSw
import Derived.Test.YtbllgmcpebifhaaGreatDoorZSh
namespace Go.Proofs.YtbllgmcpebifhaaGreatDoor.K
open Go Go.RowKit Ieee
set_option linter.all false
set_option maxRecDepth 10000
set_option maxHeartbeats 1000000

theorem read_absB (x : Nat) : double.read (absB x) = match double.read x with
    | .number _ m p => .number false m p
    | .infinity _ => .infinity false
    | .nan _ f => .nan false f := by
  rw [absB_eq]
  unfold Format.read
  rw [sw, bn, ir, lp]
  have h1 : x % 9223372036854775808 / 9223372036854775808 = 0 := by omega
  have h2 : x % 9223372036854775808 % 9223372036854775808 = x % 9223372036854775808 := by omega
  simp only [h1, h2]
  split
  · rfl
  · split
    · rfl
    · split
      · rfl
      · rfl
theorem word_false (r : Nat) (h : r ≤ 9218868437227405312) : (∃ m p, double.read (double.word false r) = .number false m p) ∨ double.read (double.word false r) = .infinity false := by
  have e : double.word false r = r := rfl
  rw [e]
  unfold Format.read
  rw [sw, bn, ir, lp]
  have h1 : r / 9223372036854775808 = 0 := by omega
  have h2 : r % 9223372036854775808 = r := by omega
  simp only [h1, h2]
  split
  · exact .inl ⟨_, _, rfl⟩
  · split
    · exact .inl ⟨_, _, rfl⟩
    · split
      · exact .inr rfl
      · omega
theorem sum_nn (m m2 : Nat) (p p2 : Int) : ∃ tot base, Datum.sum (.number false m p) (.number false m2 p2) = some (.number false tot base) := by
  have hs : ∀ (m k : Nat), 0 ≤ signed false m k := fun m k => by
    unfold signed
    rw [if_neg (by decide)]
    exact Int.natCast_nonneg _
  have hs1 := hs m (p - min p p2).toNat
  have hs2 := hs m2 (p2 - min p p2).toNat
  have e : Datum.sum (.number false m p) (.number false m2 p2) = some (.number (if signed false m (p - min p p2).toNat + signed false m2 (p2 - min p p2).toNat = 0 then (false && false) else decide (signed false m (p - min p p2).toNat + signed false m2 (p2 - min p p2).toNat < 0)) (signed false m (p - min p p2).toNat + signed false m2 (p2 - min p p2).toNat).natAbs (min p p2)) := rfl
  rw [e]
  generalize signed false m (p - min p p2).toNat = x at *
  generalize signed false m2 (p2 - min p p2).toNat = y at *
  have hb : (if x + y = 0 then (false && false) else decide (x + y < 0)) = false := by
    by_cases h0 : x + y = 0
    · rw [if_pos h0]; rfl
    · rw [if_neg h0]; exact decide_eq_false (by omega)
  rw [hb]
  exact ⟨_, _, rfl⟩
theorem write_nn (tot : Nat) (base : Int) : ∃ rg, rg ≤ 9218868437227405312 ∧ double.write (.number false tot base) = double.word false rg := by
  unfold Format.write Format.nearest
  dsimp only
  split
  · exact ⟨0, by omega, rfl⟩
  · rw [ir]; exact ⟨_, Nat.min_le_right _ _, rfl⟩
def NN (D : Datum) : Prop := (∃ m p, D = .number false m p) ∨ D = .infinity false ∨ ∃ s f, D = .nan s f
theorem nn_abs (x : Nat) : NN (double.read (absB x)) := by
  rw [read_absB]
  cases double.read x with
  | number s m p => exact .inl ⟨_, _, rfl⟩
  | infinity s => exact .inr (.inl rfl)
  | nan s f => exact .inr (.inr ⟨_, _, rfl⟩)
theorem add_nn {A B : Nat} (hA : NN (double.read A)) (hB : NN (double.read B)) : fop .add A B = NAN ∨ double.read (fop .add A B) = .infinity false ∨ ((∃ m p, double.read A = .number false m p) ∧ (∃ m p, double.read B = .number false m p) ∧ ∃ m p, double.read (fop .add A B) = .number false m p) := by
  have e1 : fop .add A B = (((double.read A).sum (double.read B)).map double.write).getD NAN := rfl
  have ei : double.read (double.write (.infinity false)) = .infinity false := read_inf false
  rw [e1]
  rcases hA with ⟨m, p, hA⟩ | hA | ⟨s, f, hA⟩
  · rcases hB with ⟨m2, p2, hB⟩ | hB | ⟨s, f, hB⟩
    · obtain ⟨tot, base, hs⟩ := sum_nn m m2 p p2
      obtain ⟨rg, hrg, hw⟩ := write_nn tot base
      rw [hA, hB, hs, Option.map_some, Option.getD_some, hw]
      rcases word_false rg hrg with ⟨m3, p3, h3⟩ | h3
      · exact .inr (.inr ⟨⟨_, _, rfl⟩, ⟨_, _, rfl⟩, _, _, h3⟩)
      · exact .inr (.inl h3)
    · have hs : Datum.sum (.number false m p) (.infinity false) = some (.infinity false) := rfl
      rw [hA, hB, hs, Option.map_some, Option.getD_some, ei]
      exact .inr (.inl rfl)
    · have hs : Datum.sum (.number false m p) (.nan s f) = none := rfl
      rw [hA, hB, hs]
      exact .inl rfl
  · rcases hB with ⟨m2, p2, hB⟩ | hB | ⟨s, f, hB⟩
    · have hs : Datum.sum (.infinity false) (.number false m2 p2) = some (.infinity false) := rfl
      rw [hA, hB, hs, Option.map_some, Option.getD_some, ei]
      exact .inr (.inl rfl)
    · have hs : Datum.sum (.infinity false) (.infinity false) = some (.infinity false) := rfl
      rw [hA, hB, hs, Option.map_some, Option.getD_some, ei]
      exact .inr (.inl rfl)
    · have hs : Datum.sum (.infinity false) (.nan s f) = none := rfl
      rw [hA, hB, hs]
      exact .inl rfl
  · have hs : Datum.sum (.nan s f) (double.read B) = none := by cases double.read B <;> rfl
    rw [hA, hs]
    exact .inl rfl
theorem fv_read {x : Nat} {s : Bool} {m : Nat} {p : Int} (h : double.read x = .number s m p) : fv x = some (signed s m (p + 1074).toNat) := by
  unfold fv
  rw [h]
theorem num_abs {x m : Nat} {p : Int} (h : double.read (absB x) = .number false m p) : ∃ s m p, double.read x = .number s m p := by
  rw [read_absB] at h
  cases hx : double.read x with
  | number s m p => exact ⟨s, m, p, rfl⟩
  | infinity s => rw [hx] at h; cases h
  | nan s f => rw [hx] at h; cases h
/-- A size that is not more than a finite number is finite, and so are its parts. -/
theorem size_fin {d : Nat × Nat} {r : Nat} (hr : ffin r = true) (h : fcmp .leq (csize d) r = true) : cfin d = true ∧ ffin (csize d) = true := by
  obtain ⟨b, hb⟩ := fin_of hr
  obtain ⟨t, n, j, hrr, _⟩ := fv_num hb
  have e0 : csize d = fop .add (absB d.1) (absB d.2) := by unfold csize fabs; rw [fop_l, fop_r]
  have h' : (double.order (csize d) r == some .lt || double.order (csize d) r == some .eq) = true := h
  have hn : ∀ o, double.order (csize d) r = o → o = none ∨ o = some .gt → False := fun o ho hc => by
    rw [ho] at h'
    rcases hc with rfl | rfl
    · exact absurd h' (by decide)
    · exact absurd h' (by decide)
  unfold Format.order at hn
  rw [hrr] at hn
  rw [e0] at hn ⊢
  rcases add_nn (nn_abs d.1) (nn_abs d.2) with h1 | h1 | ⟨⟨m1, p1, h1⟩, ⟨m2, p2, h2⟩, m3, p3, h3⟩
  · rw [h1, show double.read NAN = .nan false 2251799813685249 by decide +kernel] at hn
    exact (hn _ rfl (.inl rfl)).elim
  · rw [h1] at hn
    exact (hn _ rfl (.inr rfl)).elim
  · obtain ⟨s1, n1, q1, g1⟩ := num_abs h1
    obtain ⟨s2, n2, q2, g2⟩ := num_abs h2
    refine ⟨?_, ffin_of (fv_read h3)⟩
    unfold cfin
    rw [ffin_of (fv_read g1), ffin_of (fv_read g2)]
    rfl
/-- Which of the list are joined. -/
def Jr (l : List (Nat × Nat)) (r : Nat) (i k : Nat) : Bool := fcmp .leq (csize (csub (l.getD i (0, 0)) (l.getD k (0, 0)))) r
theorem Jr_sym (l : List (Nat × Nat)) (r : Nat) (i k : Nat) : Jr l r i k = Jr l r k i := by unfold Jr; rw [csize_swap]
theorem getD_cx {l : List (Nat × Nat)} {i : Nat} {z : Nat × Nat} (h : l[i]? = some z) : l.getD i (0, 0) = z := by rw [List.getD_eq_getElem?_getD, h]; rfl
abbrev Fcl (b2 b3 : Nat) (v : Value) (l : List (Nat × Nat)) (r : Nat) : List Fact := [fOwn (.box b2 [v] 30), fOwn (.box b3 [.float .f64 r] 35), fList 1 rCx v l]
theorem joined_spec (b2 b3 : Nat) (v : Value) (l : List (Nat × Nat)) (r : Nat) (hr : ffin r = true) (i k : Nat) (hi : i < l.length) (hk : k < l.length) :
    Spec Tryz.prog 85 ([.int .i64 (i : Int), .int .i64 (k : Int)] ++ [pt b2, pt b3]) [] (Fcl b2 b3 v l r) (PU (.bool (Jr l r i k))) := by
  obtain ⟨z, hz⟩ : ∃ z, l[i]? = some z := ⟨_, List.getElem?_eq_getElem hi⟩
  obtain ⟨w, hw⟩ : ∃ w, l[k]? = some w := ⟨_, List.getElem?_eq_getElem hk⟩
  have hJ : Jr l r i k = fcmp .leq (csize (csub z w)) r := by unfold Jr; rw [getD_cx hz, getD_cx hw]
  rw [hJ]
  refine enter Tryz.func85 Tryz.ntmps85 rfl (by kernel_rfl) zCon rfl fun G => ?_
  refine c_isList (v := v) zMem fun hsv => ?_
  have hfin := @size_fin (csub z w) r hr
  all_goals ((try refine zR3 ?_) <;> (repeat' (with_reducible first | refine And.intro ?_ ?_ | intro _)))
  cases hc : cfin (csub z w) with
  | false =>
    have hl : fcmp .leq (csize (csub z w)) r = false := by
      cases h : fcmp .leq (csize (csub z w)) r with
      | false => rfl
      | true => rw [(hfin h).1] at hc; cases hc
    rw [hl]
    refine c_draw ([9], []) [] [0, 1, 2, 3, 4, 5, 6, 7, 8, 9] (by kernel_rfl) (by kernel_rfl) ?_
    all_goals (((try refine zD3 ?_) <;> (repeat' (with_reducible first | refine And.intro ?_ ?_ | intro _))) <;> (repeat' ((first | ((with_reducible apply l_callM); exact rfl; exact rfl; exact zEvs; exact rfl; (apply subtract_spec); (case hL => exact zTake); (case hF => exact zFsub); (try any_goals (refine propId ?_; first | omega | exact zLt)); (with_reducible intro _))) <;> ((try refine zD3 ?_) <;> (repeat' (with_reducible first | refine And.intro ?_ ?_ | intro _))))))
    rename_i u
    have hIu : cfin (u.1.1, u.1.2) = cfin (csub z w) := u.fin
    have hSu : csize (u.1.1, u.1.2) = csize (csub z w) := by rw [← csize_nf, show nf2 (u.1.1, u.1.2) = csub z w from u.eq]
    have hI := IsFinite_spec u.1.1 u.1.2
    have hZ := sizeOf_spec u.1.1 u.1.2
    rw [hIu] at hI
    rw [hSu] at hZ
    rw [hc] at hI
    refine c_draw ([13], []) [] [0, 1, 2, 3, 4, 5, 6, 7, 8, 9, 10, 11, 12, 13] (by kernel_rfl) (by kernel_rfl) ?_
    all_goals (((try refine zD3 ?_) <;> (repeat' (with_reducible first | refine And.intro ?_ ?_ | intro _))) <;> (repeat' ((first | ((with_reducible apply l_callM); exact rfl; exact rfl; exact zEvs; exact rfl; (apply hI); (case hL => exact zTake); (case hF => exact zFsub); (try any_goals (refine propId ?_; first | omega | exact zLt)); (with_reducible intro _))) <;> ((try refine zD3 ?_) <;> (repeat' (with_reducible first | refine And.intro ?_ ?_ | intro _))))))
    exact e_pm () rfl zRes .nil rfl
  | true =>
    cases hs : ffin (csize (csub z w)) with
    | false =>
      have hl : fcmp .leq (csize (csub z w)) r = false := by
        cases h : fcmp .leq (csize (csub z w)) r with
        | false => rfl
        | true => rw [(hfin h).2] at hs; cases hs
      rw [hl]
      refine c_draw ([9], []) [] [0, 1, 2, 3, 4, 5, 6, 7, 8, 9] (by kernel_rfl) (by kernel_rfl) ?_
      all_goals (((try refine zD3 ?_) <;> (repeat' (with_reducible first | refine And.intro ?_ ?_ | intro _))) <;> (repeat' ((first | ((with_reducible apply l_callM); exact rfl; exact rfl; exact zEvs; exact rfl; (apply subtract_spec); (case hL => exact zTake); (case hF => exact zFsub); (try any_goals (refine propId ?_; first | omega | exact zLt)); (with_reducible intro _))) <;> ((try refine zD3 ?_) <;> (repeat' (with_reducible first | refine And.intro ?_ ?_ | intro _))))))
      rename_i u
      have hIu : cfin (u.1.1, u.1.2) = cfin (csub z w) := u.fin
      have hSu : csize (u.1.1, u.1.2) = csize (csub z w) := by rw [← csize_nf, show nf2 (u.1.1, u.1.2) = csub z w from u.eq]
      have hI := IsFinite_spec u.1.1 u.1.2
      have hZ := sizeOf_spec u.1.1 u.1.2
      rw [hIu] at hI
      rw [hSu] at hZ
      have hR := fun (y : FW (csize (csub z w))) => isReal_spec y.1
      have hR2 : ∀ y : FW (csize (csub z w)), ffin y.1 = false := fun y => by rw [y.fin, hs]
      simp only [hR2] at hR
      rw [hc] at hI
      refine c_draw ([13], []) [] [0, 1, 2, 3, 4, 5, 6, 7, 8, 9, 10, 11, 12, 13] (by kernel_rfl) (by kernel_rfl) ?_
      all_goals (((try refine zD3 ?_) <;> (repeat' (with_reducible first | refine And.intro ?_ ?_ | intro _))) <;> (repeat' ((first | ((with_reducible apply l_callM); exact rfl; exact rfl; exact zEvs; exact rfl; (apply hI); (case hL => exact zTake); (case hF => exact zFsub); (try any_goals (refine propId ?_; first | omega | exact zLt)); (with_reducible intro _)) | ((with_reducible apply l_callM); exact rfl; exact rfl; exact zEvs; exact rfl; (apply hZ); (case hL => exact zTake); (case hF => exact zFsub); (try any_goals (refine propId ?_; first | omega | exact zLt)); (with_reducible intro _)) | ((with_reducible apply l_callP); exact rfl; exact zEvs; exact rfl; (with_reducible apply hR _); (case hF => exact zFsub); (try any_goals (refine propId ?_; omega)))) <;> ((try refine zD3 ?_) <;> (repeat' (with_reducible first | refine And.intro ?_ ?_ | intro _))))))
      exact e_pm () rfl zRes .nil rfl
    | true =>
      skip
      refine c_draw ([9], []) [] [0, 1, 2, 3, 4, 5, 6, 7, 8, 9] (by kernel_rfl) (by kernel_rfl) ?_
      all_goals (((try refine zD3 ?_) <;> (repeat' (with_reducible first | refine And.intro ?_ ?_ | intro _))) <;> (repeat' ((first | ((with_reducible apply l_callM); exact rfl; exact rfl; exact zEvs; exact rfl; (apply subtract_spec); (case hL => exact zTake); (case hF => exact zFsub); (try any_goals (refine propId ?_; first | omega | exact zLt)); (with_reducible intro _))) <;> ((try refine zD3 ?_) <;> (repeat' (with_reducible first | refine And.intro ?_ ?_ | intro _))))))
      rename_i u
      have hIu : cfin (u.1.1, u.1.2) = cfin (csub z w) := u.fin
      have hSu : csize (u.1.1, u.1.2) = csize (csub z w) := by rw [← csize_nf, show nf2 (u.1.1, u.1.2) = csub z w from u.eq]
      have hI := IsFinite_spec u.1.1 u.1.2
      have hZ := sizeOf_spec u.1.1 u.1.2
      rw [hIu] at hI
      rw [hSu] at hZ
      have hR := fun (y : FW (csize (csub z w))) => isReal_spec y.1
      have hR2 : ∀ y : FW (csize (csub z w)), ffin y.1 = true := fun y => by rw [y.fin, hs]
      simp only [hR2] at hR
      rw [hc] at hI
      refine c_draw ([13], []) [] [0, 1, 2, 3, 4, 5, 6, 7, 8, 10, 9, 11, 12, 13] (by kernel_rfl) (by kernel_rfl) ?_
      all_goals (((try refine zD3 ?_) <;> (repeat' (with_reducible first | refine And.intro ?_ ?_ | intro _))) <;> (repeat' ((first | ((with_reducible apply l_callM); exact rfl; exact rfl; exact zEvs; exact rfl; (apply hI); (case hL => exact zTake); (case hF => exact zFsub); (try any_goals (refine propId ?_; first | omega | exact zLt)); (with_reducible intro _)) | ((with_reducible apply l_callM); exact rfl; exact rfl; exact zEvs; exact rfl; (apply hZ); (case hL => exact zTake); (case hF => exact zFsub); (try any_goals (refine propId ?_; first | omega | exact zLt)); (with_reducible intro _)) | ((with_reducible apply l_callP); exact rfl; exact zEvs; exact rfl; (with_reducible apply hR _); (case hF => exact zFsub); (try any_goals (refine propId ?_; omega)))) <;> ((try refine zD3 ?_) <;> (repeat' (with_reducible first | refine And.intro ?_ ?_ | intro _))))))
      refine e_pm () rfl zRes .nil ?_
      simp [retVal, FW.cl]
/-- The code of the clusters. -/
def clC (l : List (Nat × Nat)) (r : Nat) : Int := if l.all cfin = true ∧ ffin r = true then (if fcmp .lss r 0 = true then 2 else 0) else 1
/-- The clusters are handed back. -/
def PCls (l : List (Nat × Nat)) (r : Nat) (y : Value) (L' : List Own) (F' : List Fact) : Prop :=
  (clC l r = 0 ∧ ∃ v, y = .tuple #[v, .int .i64 0] ∧ L' = [] ∧ F' = [fList 1 (rList 1 (rInt .i64)) v (qs (cls (Jr l r) l.length l.length 0 (List.replicate l.length false)))]) ∨ (clC l r ≠ 0 ∧ y = .tuple #[.slice none 0 0, .int .i64 (clC l r)] ∧ L' = [] ∧ F' = [])
theorem clC_cases (l : List (Nat × Nat)) (r : Nat) : (l.all cfin = true ∧ ffin r = true ∧ fcmp .lss r 0 = false ∧ clC l r = 0) ∨ (l.all cfin = true ∧ ffin r = true ∧ fcmp .lss r 0 = true ∧ clC l r = 2) ∨ (l.all cfin = true ∧ ffin r = false ∧ clC l r = 1) ∨ (l.all cfin = false ∧ clC l r = 1) := by
  unfold clC
  cases h1 : l.all cfin with
  | false => exact .inr (.inr (.inr ⟨rfl, by simp⟩))
  | true =>
    cases h2 : ffin r with
    | false => exact .inr (.inr (.inl ⟨rfl, rfl, by simp⟩))
    | true =>
      cases h3 : fcmp .lss r 0 with
      | false => exact .inl ⟨rfl, rfl, rfl, by simp⟩
      | true => exact .inr (.inl ⟨rfl, rfl, rfl, by simp⟩)
theorem ClustersOf_spec (v : Value) (l : List (Nat × Nat)) (r : Nat) (hl : l.length ≤ 100) : Spec Tryz.prog 19 [v, .float .f64 r] [] [fList 1 rCx v l] (PCls l r) := by
  have hA := areFinite_spec v l
  have hR := isReal_spec r
  refine enter Tryz.func19 Tryz.ntmps19 rfl (by kernel_rfl) zCon rfl fun G => ?_
  refine c_isList (v := v) zMem fun hsv => ?_
  refine c_lenList zMem fun hlen => ?_
  rcases clC_cases l r with ⟨h1, h2, h3, h4⟩ | ⟨h1, h2, h3, h4⟩ | ⟨h1, h2, h4⟩ | ⟨h1, h4⟩
  · rw [h1] at hA
    rw [h2] at hR
    all_goals (((try refine zR3 ?_) <;> (repeat' (with_reducible first | refine And.intro ?_ ?_ | intro _))) <;> (repeat' ((first | ((with_reducible apply l_callP); exact rfl; exact zEvs; exact rfl; (with_reducible apply hA); (case hF => exact zFsub); (try any_goals (refine propId ?_; omega))) | ((with_reducible apply l_callP); exact rfl; exact zEvs; exact rfl; (with_reducible apply hR); (case hF => exact zFsub); (try any_goals (refine propId ?_; omega)))) <;> ((try refine zR3 ?_) <;> (repeat' (with_reducible first | refine And.intro ?_ ?_ | intro _))))))
    all_goals (first | (exfalso; omega) | skip)
    all_goals try (exfalso; have a1 : fcmp .lss r 0 = true := (by assumption); have a2 : fcmp .lss r 0 = false := (by assumption); rw [a1] at a2; cases a2)
    rename_i b2 b3 _ _ _ _
    refine l_makeFunc (first := []) (cap := [.tmp 2, .tmp 3]) rfl .nil zEvs rfl ?_
    refine l_frzOwn (o := .box b2 [v] 30) zEra ?_
    refine l_frzOwn (o := .box b3 [.float .f64 r] 35) zEra ?_
    refine l_call rfl zEvs rfl (grouped_spec (cap := [pt b2, pt b3]) (Fc := Fcl b2 b3 v l r) (Jr l r) l.length hl (fun i k hi hk => joined_spec b2 b3 v l r h2 i k hi hk)) zTake zFsub ?_
    rintro y L' F' ⟨rfl, rfl⟩
    all_goals ((try refine zR3 ?_) <;> (repeat' (with_reducible first | refine And.intro ?_ ?_ | intro _)))
    exact e_resT rfl zRes .nil (fsub_cons zMem fsub_nil) (.inl ⟨h4, y, rfl, rfl, rfl⟩)
  · rw [h1] at hA
    rw [h2] at hR
    have hne : clC l r ≠ 0 := by rw [h4]; decide
    all_goals (((try refine zR3 ?_) <;> (repeat' (with_reducible first | refine And.intro ?_ ?_ | intro _))) <;> (repeat' ((first | ((with_reducible apply l_callP); exact rfl; exact zEvs; exact rfl; (with_reducible apply hA); (case hF => exact zFsub); (try any_goals (refine propId ?_; omega))) | ((with_reducible apply l_callP); exact rfl; exact zEvs; exact rfl; (with_reducible apply hR); (case hF => exact zFsub); (try any_goals (refine propId ?_; omega)))) <;> ((try refine zR3 ?_) <;> (repeat' (with_reducible first | refine And.intro ?_ ?_ | intro _))))))
    all_goals (first | (exfalso; omega) | skip)
    all_goals try (exfalso; have a1 : fcmp .lss r 0 = true := (by assumption); have a2 : fcmp .lss r 0 = false := (by assumption); rw [a1] at a2; cases a2)
    exact e_resT rfl zRes .nil fsub_nil (.inr ⟨hne, by rw [h4]; rfl, rfl, rfl⟩)
  · rw [h1] at hA
    rw [h2] at hR
    have hne : clC l r ≠ 0 := by rw [h4]; decide
    all_goals (((try refine zR3 ?_) <;> (repeat' (with_reducible first | refine And.intro ?_ ?_ | intro _))) <;> (repeat' ((first | ((with_reducible apply l_callP); exact rfl; exact zEvs; exact rfl; (with_reducible apply hA); (case hF => exact zFsub); (try any_goals (refine propId ?_; omega))) | ((with_reducible apply l_callP); exact rfl; exact zEvs; exact rfl; (with_reducible apply hR); (case hF => exact zFsub); (try any_goals (refine propId ?_; omega)))) <;> ((try refine zR3 ?_) <;> (repeat' (with_reducible first | refine And.intro ?_ ?_ | intro _))))))
    exact e_resT rfl zRes .nil fsub_nil (.inr ⟨hne, by rw [h4]; rfl, rfl, rfl⟩)
  · rw [h1] at hA
    have hne : clC l r ≠ 0 := by rw [h4]; decide
    all_goals (((try refine zR3 ?_) <;> (repeat' (with_reducible first | refine And.intro ?_ ?_ | intro _))) <;> (repeat' ((first | ((with_reducible apply l_callP); exact rfl; exact zEvs; exact rfl; (with_reducible apply hA); (case hF => exact zFsub); (try any_goals (refine propId ?_; omega))) | ((with_reducible apply l_callP); exact rfl; exact zEvs; exact rfl; (with_reducible apply hR); (case hF => exact zFsub); (try any_goals (refine propId ?_; omega)))) <;> ((try refine zR3 ?_) <;> (repeat' (with_reducible first | refine And.intro ?_ ?_ | intro _))))))
    exact e_resT rfl zRes .nil fsub_nil (.inr ⟨hne, by rw [h4]; rfl, rfl, rfl⟩)
end Go.Proofs.YtbllgmcpebifhaaGreatDoor.K
