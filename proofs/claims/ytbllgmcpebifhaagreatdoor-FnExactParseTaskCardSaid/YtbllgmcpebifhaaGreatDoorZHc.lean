/- The value of a whole number; texts of exact numbers. -/
import Derived.Test.YtbllgmcpebifhaaGreatDoorZHb
namespace Go.Proofs.YtbllgmcpebifhaaGreatDoor.K
open Go Go.RowKit Go.Lib
set_option linter.all false
set_option maxRecDepth 4000
set_option maxHeartbeats 1000000
set_option exponentiation.threshold 8000

theorem ends_dig0 {G : Ctx} {n : Nat} {Q : Post} {m : Regs} {L : List Own} {F : List Fact} {mag : Value} {x : Nat} {e : Exit} (hF : fDig mag x ∈ F) (h : ∀ d, Dig d x → Ends G n Q e m L (fList 1 (rInt .u32) mag d :: F)) : Ends G n Q e m L F := fun a w st => by
  obtain ⟨d, h1, h2⟩ := st.facts _ hF
  exact h d h1 a w (st.fact h2)
theorem Neg_spec (z x : Nat) (v : Int) (n0 : Bool) (m0 mx : Value) (R : List Own) (hx : oInt x v mx ∈ oBig z n0 m0 :: R) (hv : v.natAbs < 4294967296 ^ 2000) :
    Spec Tryz.prog 184 [ptr z, ptr x] (oBig z n0 m0 :: R) [fDig mx v.natAbs] (PInt z (-v) R) := by
  refine enter Tryz.func184 Tryz.ntmps184 rfl (by kernel_rfl) zCon rfl fun G => ?_
  refine c_dig (mag := mx) zMem fun d hd => ?_
  refine c_isList (v := mx) zMem fun hs1 => ?_
  have hl := hd.len hv
  all_goals ((try refine zS ?_) <;> (repeat' (with_reducible first | refine And.intro ?_ ?_ | intro _)))
  refine c_draw ([12, 13], []) [oInt x v mx] [0, 1, 2, 3, 4, 5, 7, 8, 9, 10, 6, 11, 12, 13] (by kernel_rfl) (by kernel_rfl) ?_
  all_goals ((try refine zD ?_) <;> (repeat' (with_reducible first | refine And.intro ?_ ?_ | intro _)))
  refine l_appendInts rfl rfl rfl rfl rfl zMem (fun _ => .head) (by simp [maxLen]; omega) (by omega) fun mr => ?_
  refine l_nil ?_
  refine ends_freezeInts (ik := .u32) (l := d) .head (by simp) ?_
  all_goals ((try refine zD ?_) <;> (repeat' (with_reducible first | refine And.intro ?_ ?_ | intro _)))
  refine l_call rfl zEvs rfl (put_spec z n0 (decide (¬ v < 0)) m0 mr d hd.1) zTake zFsub ?_
  rintro _ L' F' ⟨mag', rfl, rfl, rfl⟩
  all_goals ((try refine zD ?_) <;> (repeat' (with_reducible first | refine And.intro ?_ ?_ | intro _)))
  have e : sv (decide (¬ v < 0)) (vl 4294967296 d) = -v := by
    rw [hd.2.2]
    unfold sv
    by_cases h : v < 0 <;> simp [h] <;> omega
  rw [e]
  exact e_res rfl zRes _ _ (fun _ h => h) (fun _ h => h.apart) (fsub_cons (.head _) fsub_nil) ⟨mag', rfl, rfl, rfl⟩

theorem vl24_lt {l : List Int} (h : InR 16777216 l) (hl : l.length ≤ 200) (i : Nat) : vl 16777216 (l.drop i) < 4294967296 ^ 150 := by
  refine Nat.lt_of_lt_of_le (vl_lt _ _ (h.drop i)) (Nat.le_trans (Nat.pow_le_pow_right (by omega) (by simp; omega : (l.drop i).length ≤ 200)) ?_)
  decide +kernel

theorem value_spec (sg : Int) (v : Value) (l : List Int) (hw : IsW sg l) : Spec Tryz.prog 171 [vWhole sg v] [] [fList 1 (rInt .i64) v l]
    (fun r L' F' => ∃ b mag, r = ptr b ∧ L' = [oInt b (sv (decide (sg < 0)) (vl 16777216 l)) mag] ∧ F' = [fDig mag (sv (decide (sg < 0)) (vl 16777216 l)).natAbs]) := by
  refine enter Tryz.func171 Tryz.ntmps171 rfl (by kernel_rfl) zCon rfl fun G => ?_
  refine c_isList zMem fun hsl => ?_
  have hR := hw.inR
  have hlen := hw.len
  all_goals ((try refine zR ?_) <;> (repeat' (with_reducible first | refine And.intro ?_ ?_ | intro _)))
  rename_i b0 b _
  refine c_nilDig ?_
  refine c_while (ι := { p : Nat × Value // p.1 ≤ l.length }) (κ := Value)
    (fun p => [(4, .int .i64 ((p.1.1 : Int) - 1)), (3, ptr b), (1, ptr b0)]) (fun p => [oInt b ((vl 16777216 (l.drop p.1.1) : Nat) : Int) p.1.2, .box b0 [.int .i64 sg, v] 46]) (fun p => [fDig p.1.2 ((vl 16777216 (l.drop p.1.1) : Nat) : Int).natAbs, fList 1 (rInt .i64) v l]) (fun p => p.1.1)
    (fun _ => [(3, ptr b), (1, ptr b0)]) (fun m => [oInt b ((vl 16777216 l : Nat) : Int) m, .box b0 [.int .i64 sg, v] 46]) (fun m => [fDig m ((vl 16777216 l : Nat) : Int).natAbs]) ⟨(l.length, .slice none 0 0), Nat.le_refl _⟩ (fun _ _ s => s.start zSub (by dsimp only; rw [List.drop_length]; rfl) (by dsimp only; rw [List.drop_length]; exact zFsub)) ?_ ?_
  · rintro ⟨⟨i, mg⟩, hi⟩
    dsimp only at hi ⊢
    rcases Nat.eq_zero_or_pos i with hi0 | hi0
    · subst hi0
      all_goals ((try refine zR ?_) <;> (repeat' (with_reducible first | refine And.intro ?_ ?_ | intro _)))
      rw [List.drop_zero]
      exact e_out mg zSub rfl zFsub
    · obtain ⟨k, rfl⟩ : ∃ k, i = k + 1 := ⟨i - 1, by omega⟩
      have hk : k < l.length := by omega
      have hx := hR _ (List.getElem_mem hk)
      have hget : l[k]? = some l[k] := List.getElem?_eq_getElem hk
      have e : 16777216 * vl 16777216 (l.drop (k + 1)) + l[k].toNat = vl 16777216 (l.drop k) := by rw [vl_drop _ _ _ hk]; omega
      have hP900 : (((vl 16777216 (l.drop (k + 1)) : Nat) : Int) * 16777216).natAbs < 4294967296 ^ 900 := by
        have h1 : (((vl 16777216 (l.drop (k + 1)) : Nat) : Int) * 16777216).natAbs ≤ vl 16777216 (l.drop k) := by omega
        exact Nat.lt_of_le_of_lt h1 (Nat.lt_of_lt_of_le (vl24_lt hR hlen k) (Nat.pow_le_pow_right (by omega) (by omega)))
      have hV1000 : ((vl 16777216 (l.drop (k + 1)) : Nat) : Int).natAbs < 4294967296 ^ 1000 := by
        rw [Int.natAbs_natCast]
        exact Nat.lt_of_lt_of_le (vl24_lt hR hlen (k + 1)) (Nat.pow_le_pow_right (by omega) (by omega))
      revert hx hget e
      generalize l[k] = y
      intro hx hget e
      refine c_say (t := 4) (v' := .int .i64 (k : Int)) rfl (congrArg _ (by omega)) ?_
      all_goals ((try refine zR ?_) <;> (repeat' (with_reducible first | refine And.intro ?_ ?_ | intro _)))
      refine l_callI rfl zEvs rfl (Lsh24_spec b b ((vl 16777216 (l.drop (k + 1)) : Nat) : Int) _ _ mg [] zMem hV1000) zTake zFsub fun mg2 => ?_
      all_goals ((try refine zR ?_) <;> (repeat' (with_reducible first | refine And.intro ?_ ?_ | intro _)))
      refine l_call rfl zEvs rfl (newBig_spec y (by omega)) zTake zFsub ?_
      rintro _ L' F' ⟨b3, mg3, rfl, rfl, rfl⟩
      have hy900 : y.natAbs < 4294967296 ^ 900 := Nat.lt_of_lt_of_le (by omega : y.natAbs < 4294967296 ^ 1) (Nat.pow_le_pow_right (by omega) (by omega))
      refine l_callI rfl zEvs rfl (Add_spec b b b3 (((vl 16777216 (l.drop (k + 1)) : Nat) : Int) * 16777216) y _ _ mg2 mg3 [oInt b3 y mg3] zMem zMem hP900 hy900) zTake zFsub fun mg4 => ?_
      have ev : ((vl 16777216 (l.drop (k + 1)) : Nat) : Int) * 16777216 + y = ((vl 16777216 (l.drop k) : Nat) : Int) := by omega
      rw [ev]
      all_goals ((try refine zR ?_) <;> (repeat' (with_reducible first | refine And.intro ?_ ?_ | intro _)))
      refine ends_take (L' := [oInt b ((vl 16777216 (l.drop k) : Nat) : Int) mg4, .box b0 [.int .i64 sg, v] 46]) zTake ?_
      exact e_again ⟨(k, mg4), by dsimp only; omega⟩ (by dsimp only; omega) zSub rfl zFsub
  · intro mg
    have hV2000 : ((vl 16777216 l : Nat) : Int).natAbs < 4294967296 ^ 2000 := by
      have := vl24_lt hR hlen 0
      rw [List.drop_zero] at this
      rw [Int.natAbs_natCast]
      exact Nat.lt_of_lt_of_le this (Nat.pow_le_pow_right (by omega) (by omega))
    all_goals ((try refine zR ?_) <;> (repeat' (with_reducible first | refine And.intro ?_ ?_ | intro _)))
    · have hneg : sg < 0 := by assumption
      refine l_callI rfl zEvs rfl (Neg_spec b b ((vl 16777216 l : Nat) : Int) _ _ mg [] zMem hV2000) zTake zFsub fun mg2 => ?_
      all_goals ((try refine zR ?_) <;> (repeat' (with_reducible first | refine And.intro ?_ ?_ | intro _)))
      have e : -((vl 16777216 l : Nat) : Int) = sv (decide (sg < 0)) (vl 16777216 l) := by unfold sv; simp [hneg]
      rw [e]
      exact e_resT rfl zRes (.cons .head .nil) (fsub_cons (.head _) fsub_nil) ⟨b, mg2, rfl, rfl, rfl⟩
    · have hneg : ¬ sg < 0 := by assumption
      have e : ((vl 16777216 l : Nat) : Int) = sv (decide (sg < 0)) (vl 16777216 l) := by unfold sv; simp [hneg]
      rw [e]
      exact e_resT rfl zRes (.cons .head .nil) (fsub_cons (.head _) fsub_nil) ⟨b, mg, rfl, rfl, rfl⟩

/-- The table of powers of ten stands. -/
def fTab : Fact := ⟨fun w M => TabIs Tryz.prog w "internal/strconv.uint64pow10" .u64 pow10Tab ∧ ∀ g, Tryz.prog.globalNamed "internal/strconv.uint64pow10" = some g → g < w.heap.size ∧ ¬ M g, fun {w M w' M'} h hl => by
  obtain ⟨h1, h2⟩ := h
  refine ⟨?_, fun g hg => ?_⟩
  · unfold TabIs World.var? at *
    cases hg : Tryz.prog.globalNamed "internal/strconv.uint64pow10" with
    | none => rw [hg] at h1; cases h1
    | some g =>
      rw [hg] at h1
      simp only [Option.bind_some] at h1 ⊢
      rw [hl.block g (h2 g hg).1 (h2 g hg).2]
      exact h1
  · exact ⟨Nat.lt_of_lt_of_le (h2 g hg).1 hl.size, fun hm => (h2 g hg).2 (hl.mine g (h2 g hg).1 hm)⟩⟩

theorem FormatInt_spec (e : Int) (h0 : -9223372036854775808 ≤ e) (h1 : e ≤ 9223372036854775807) : Spec Tryz.prog 194 [.int .i64 e, .int .i64 10] [] [fTab] (Gives (.string ⟨(itoa e).toArray⟩)) := by
  refine ⟨⟨Tryz.f194, _, Tryz.func194, rfl, by kernel_rfl⟩, fun w X hX hL hF => ?_⟩
  refine (Tryz.strconv_FormatInt_10 e h0 h1 w (hF _ (.head _)).1).mono ?_
  rintro en w' ⟨rfl, k, os, rfl⟩
  refine ⟨_, [], [], rfl, ⟨rfl, rfl, rfl⟩, ⟨rfl, rfl, rfl, ?_, fun x hx _ => ?_⟩, ⟨fun o h => (by cases h), trivial⟩, fun x hx => (keys_nil x hx).elim, fun φ h => (by cases h)⟩
  · show w.heap.size ≤ (w.heap ++ os).size
    simp
  · show (w.heap ++ os)[x]? = w.heap[x]?
    rw [Array.getElem?_append_left hx]


theorem sgn_neg (v : Int) : sgn v < 0 ↔ v < 0 := by
  unfold sgn
  split
  · omega
  · split <;> omega
theorem wText_itoa (v : Int) : wText (sgn v) (limbs v.natAbs) = itoa v := by
  rw [itoa_eq]
  unfold wText
  rw [limbs_val]
  by_cases h : v < 0
  · rw [if_pos ((sgn_neg v).2 h), if_pos h]
  · rw [if_neg (fun h' => h ((sgn_neg v).1 h')), if_neg h]

theorem dtext_spec (sg e : Int) (v : Value) (l : List Int) (hD : IsD sg e l) : Spec Tryz.prog 122 [vDyadic sg v e] [] [fList 1 (rInt .i64) v l, fTab] (Gives (.string ⟨(wText sg l ++ 112 :: itoa e).toArray⟩)) := by
  refine enter Tryz.func122 Tryz.ntmps122 rfl (by kernel_rfl) zCon rfl fun G => ?_
  refine c_isList (v := v) zMem fun hsl => ?_
  have hw := hD.1
  have he := hD.2.1
  have hwl : (wText sg l).length ≤ 4802 := wText_le hw
  have hel : (itoa e).length ≤ 21 := itoa_length_le e (by omega) (by omega)
  have hT := wText_len hw.inR hw.len
  have hFI := FormatInt_spec e (by omega) (by omega)
  all_goals ((try refine zS ?_) <;> (repeat' (with_reducible first | refine And.intro ?_ ?_ | intro _)))
  rename_i b
  refine c_draw ([9], []) [.box b [.int .i64 sg, v, .int .i64 e] 48] [0, 1, 5, 6, 2, 3, 4, 7, 8, 9] (by kernel_rfl) (by kernel_rfl) ?_
  all_goals ((try refine zD ?_) <;> (repeat' (with_reducible first | refine And.intro ?_ ?_ | intro _)))
  refine l_call rfl zEvs rfl (value_spec sg v l hw) zTake zFsub ?_
  rintro _ L' F' ⟨b2, mg, rfl, rfl, rfl⟩
  have hneg : decide (sg < 0) = true → 0 < vl 16777216 l := fun h => hw.trim.pos (by omega) hw.inR (hw.pos (by have := of_decide_eq_true h; omega))
  have hdec : decide (sv (decide (sg < 0)) (vl 16777216 l) < 0) = decide (sg < 0) := by
    rw [sv_neg]
    by_cases h : sg < 0
    · have := hneg (decide_eq_true h); simp [h, this]
    · simp [h]
  refine l_nil ?_
  refine ends_dig0 (.head _) fun d hd => ?_
  rw [sv_abs] at hd
  have hdl := hd.len (k := 150) (by have := vl24_lt hw.inR hw.len 0; rwa [List.drop_zero] at this)
  all_goals ((try refine zD ?_) <;> (repeat' (with_reducible first | refine And.intro ?_ ?_ | intro _)))
  refine l_call rfl zEvs rfl (String_spec b2 (decide (sv (decide (sg < 0)) (vl 16777216 l) < 0)) mg d _ hd (by omega) (by omega) (by rw [hdec]; exact hneg)) zTake zFsub ?_
  rintro _ L' F' ⟨rfl, rfl, rfl⟩
  have hbt : bText (decide (sv (decide (sg < 0)) (vl 16777216 l) < 0)) (vl 16777216 l) = wText sg l := by
    rw [hdec]
    unfold bText wText
    by_cases h : sg < 0 <;> simp [h]
  rw [hbt]
  all_goals (((try refine zD ?_) <;> (repeat' (with_reducible first | refine And.intro ?_ ?_ | intro _))) <;> (repeat' ((first | ((with_reducible apply l_callP); exact rfl; exact zEvs; exact rfl; (with_reducible apply hFI); (case hF => exact zFsub); (try any_goals (refine propId ?_; omega)))) <;> ((try refine zD ?_) <;> (repeat' (with_reducible first | refine And.intro ?_ ?_ | intro _))))))
  refine e_gives rfl zRes ?_
  simp [retVal]
end Go.Proofs.YtbllgmcpebifhaaGreatDoor.K
