/- First functions. -/
import Derived.Test.YtbllgmcpebifhaaGreatDoorZKl
import Derived.Test.YtbllgmcpebifhaaGreatDoorZKt

section
namespace Go.Proofs.YtbllgmcpebifhaaGreatDoor.K
open Go Go.RowKit
set_option linter.all false
set_option maxRecDepth 4000
set_option maxHeartbeats 1000000

theorem between_spec (x lo hi : Int) : Spec Tryz.prog 102 [.int .i64 x, .int .i64 lo, .int .i64 hi] [] [] (Gives (.bool (decide (lo ≤ x ∧ x ≤ hi)))) := by
  refine enter Tryz.func102 Tryz.ntmps102 rfl (by kernel_rfl) zCon rfl fun G => ?_
  all_goals ((try refine zR ?_) <;> (repeat' (with_reducible first | refine And.intro ?_ ?_ | intro _)))
  all_goals (refine e_gives rfl zRes ?_; first | rfl | (simp [retVal, *]; done) | (simp_all [retVal]; done) | (simp only [retVal]))

theorem l01In_spec (x lo hi : Int) : Spec Tryz.prog 175 [.int .i64 x, .int .i64 lo, .int .i64 hi] [] [] (Gives (.bool (decide (lo ≤ x ∧ x ≤ hi)))) := by
  refine enter Tryz.func175 Tryz.ntmps175 rfl (by kernel_rfl) zCon rfl fun G => ?_
  all_goals ((try refine zR ?_) <;> (repeat' (with_reducible first | refine And.intro ?_ ?_ | intro _)))
  all_goals (refine e_gives rfl zRes ?_; first | rfl | (simp [retVal, *]; done) | (simp_all [retVal]; done) | (simp only [retVal]))

/-- A whole number's fields, as the laws hand them over. -/
abbrev vWhole (sg : Int) (v : Value) : Value := .agg #[.int .i64 sg, v]
abbrev vDyadic (sg : Int) (v : Value) (e : Int) : Value := .agg #[.int .i64 sg, v, .int .i64 e]
end Go.Proofs.YtbllgmcpebifhaaGreatDoor.K
end

section
/- Which whole and exact numbers there are. -/
namespace Go.Proofs.YtbllgmcpebifhaaGreatDoor.K
open Go Go.RowKit
set_option linter.all false
set_option maxRecDepth 4000
set_option maxHeartbeats 1000000

def IsW (sg : Int) (l : List Int) : Prop := (∀ x ∈ l, 0 ≤ x ∧ x ≤ 16777215) ∧ (if l = [] then sg = 0 else l.length ≤ 200 ∧ l.getD (l.length - 1) 0 ≠ 0 ∧ (sg = 1 ∨ sg = -1))
theorem isW_iff {sg : Int} {l : List Int} (h : ∀ x ∈ l, 0 ≤ x ∧ x ≤ 16777215) : IsW sg l ↔ (if l = [] then sg = 0 else l.length ≤ 200 ∧ l.getD (l.length - 1) 0 ≠ 0 ∧ (sg = 1 ∨ sg = -1)) :=
  ⟨fun h' => h'.2, fun h' => ⟨h, h'⟩⟩
instance (sg : Int) (l : List Int) : Decidable (IsW sg l) := by unfold IsW; infer_instance

theorem IsWhole_spec (sg : Int) (v : Value) (l : List Int) : Spec Tryz.prog 101 [vWhole sg v] [] [fList 1 (rInt .i64) v l] (Gives (.bool (decide (IsW sg l)))) := by
  refine enter Tryz.func101 Tryz.ntmps101 rfl (by kernel_rfl) zCon rfl fun G => ?_
  refine c_isList zMem fun hsl => ?_
  all_goals ((try refine zS ?_) <;> (repeat' (with_reducible first | refine And.intro ?_ ?_ | intro _)))
  rename_i b _ _
  refine c_loop (ι := { i : Nat // i ≤ l.length ∧ ∀ x ∈ l.take i, 0 ≤ x ∧ x ≤ 16777215 }) (fun i => [(12, .int .i64 (i.1 : Int)), (11, .int .i64 (l.length : Int)), (10, v), (3, .int .i64 (l.length : Int)), (1, .pointer (some ⟨b, 0, none⟩)), (0, vWhole sg v)]) (fun _ => [.box b [.int .i64 sg, v] 46]) (fun _ => [fList 1 (rInt .i64) v l]) (fun i => l.length - i.1) ⟨0, by omega, by simp⟩ (fun _ _ s => s.start zSub zRfl zFsub) ?_
  rintro ⟨i, hi, hpre⟩
  dsimp only
  all_goals (((try refine zR ?_) <;> (repeat' (with_reducible first | refine And.intro ?_ ?_ | intro _))) <;> (repeat' ((first | ((with_reducible apply l_callP); exact rfl; exact zEvs; exact rfl; (with_reducible apply between_spec); (case hF => exact zFsub); (try any_goals (refine propId ?_; omega)))) <;> ((try refine zR ?_) <;> (repeat' (with_reducible first | refine And.intro ?_ ?_ | intro _))))))
  · rename_i hil hx
    refine e_gives rfl zRes ?_
    have : ¬ IsW sg l := fun h => hx (h.1 _ (List.getElem_mem _))
    simp [retVal, this]
  · rename_i hil hx
    refine e_again ⟨i + 1, by omega, fun x hm => ?_⟩ (by dsimp only; omega) zSub rfl (fun _ h => h)
    rw [List.take_succ_eq_append_getElem (by omega), List.mem_append] at hm
    rcases hm with hm | hm
    · exact hpre x hm
    · rw [List.mem_singleton.1 hm]; exact Decidable.of_not_not hx
  all_goals (have e1 : i = l.length := by omega)
  all_goals (rw [e1, List.take_length] at hpre)
  all_goals (refine e_gives rfl zRes ?_)
  all_goals (have hw := isW_iff (sg := sg) hpre)
  all_goals (rcases Nat.eq_zero_or_pos l.length with hz | hp)
  all_goals (first | omega | skip)
  all_goals (first | (obtain rfl := List.eq_nil_of_length_eq_zero hz; simp_all [retVal]; done) | skip)
  all_goals (have hnil : ¬ l = [] := List.length_pos_iff.1 hp)
  all_goals (have hg : l.getD (l.length - 1) 0 = l[l.length - 1] := by rw [List.getD_eq_getElem?_getD, List.getElem?_eq_getElem (by omega)]; rfl)
  all_goals (rw [if_neg hnil, hg] at hw)
  all_goals (first | (simp_all [retVal]; done) | (have h200 : l.length ≤ 200 := (by omega); simp_all [retVal]; done) | (have h200 : ¬ l.length ≤ 200 := (by omega); simp_all [retVal]; done))

theorem l02Is_spec (sg : Int) (v : Value) (l : List Int) : Spec Tryz.prog 174 [vWhole sg v] [] [fList 1 (rInt .i64) v l] (Gives (.bool (decide (IsW sg l)))) := by
  refine enter Tryz.func174 Tryz.ntmps174 rfl (by kernel_rfl) zCon rfl fun G => ?_
  refine c_isList zMem fun hsl => ?_
  all_goals ((try refine zS ?_) <;> (repeat' (with_reducible first | refine And.intro ?_ ?_ | intro _)))
  rename_i b _
  refine c_loop (ι := { i : Nat // i ≤ l.length ∧ ∀ x ∈ l.take i, 0 ≤ x ∧ x ≤ 16777215 }) (fun i => [(4, .int .i64 (i.1 : Int)), (3, .int .i64 (l.length : Int)), (1, .pointer (some ⟨b, 0, none⟩)), (0, vWhole sg v)]) (fun _ => [.box b [.int .i64 sg, v] 46]) (fun _ => [fList 1 (rInt .i64) v l]) (fun i => l.length - i.1) ⟨0, by omega, by simp⟩ (fun _ _ s => s.start zSub zRfl zFsub) ?_
  rintro ⟨i, hi, hpre⟩
  dsimp only
  all_goals (((try refine zR ?_) <;> (repeat' (with_reducible first | refine And.intro ?_ ?_ | intro _))) <;> (repeat' ((first | ((with_reducible apply l_callP); exact rfl; exact zEvs; exact rfl; (with_reducible apply l01In_spec); (case hF => exact zFsub); (try any_goals (refine propId ?_; omega)))) <;> ((try refine zR ?_) <;> (repeat' (with_reducible first | refine And.intro ?_ ?_ | intro _))))))
  · rename_i hil hx
    refine e_gives rfl zRes ?_
    have : ¬ IsW sg l := fun h => hx (h.1 _ (List.getElem_mem _))
    simp [retVal, this]
  · rename_i hil hx
    refine e_again ⟨i + 1, by omega, fun x hm => ?_⟩ (by dsimp only; omega) zSub rfl (fun _ h => h)
    rw [List.take_succ_eq_append_getElem (by omega), List.mem_append] at hm
    rcases hm with hm | hm
    · exact hpre x hm
    · rw [List.mem_singleton.1 hm]; exact Decidable.of_not_not hx
  all_goals (have e1 : i = l.length := by omega)
  all_goals (rw [e1, List.take_length] at hpre)
  all_goals (refine e_gives rfl zRes ?_)
  all_goals (have hw := isW_iff (sg := sg) hpre)
  all_goals (rcases Nat.eq_zero_or_pos l.length with hz | hp)
  all_goals (first | omega | skip)
  all_goals (first | (obtain rfl := List.eq_nil_of_length_eq_zero hz; simp_all [retVal]; done) | skip)
  all_goals (have hnil : ¬ l = [] := List.length_pos_iff.1 hp)
  all_goals (have hg : l.getD (l.length - 1) 0 = l[l.length - 1] := by rw [List.getD_eq_getElem?_getD, List.getElem?_eq_getElem (by omega)]; rfl)
  all_goals (rw [if_neg hnil, hg] at hw)
  all_goals (first | (simp_all [retVal]; done) | (have h200 : l.length ≤ 200 := (by omega); simp_all [retVal]; done) | (have h200 : ¬ l.length ≤ 200 := (by omega); simp_all [retVal]; done))
def IsD (sg e : Int) (l : List Int) : Prop := IsW sg l ∧ (-5000 ≤ e ∧ e ≤ 5000) ∧ (if sg = 0 then e = 0 else l.getD 0 0 % 2 = 1)
instance (sg e : Int) (l : List Int) : Decidable (IsD sg e l) := by unfold IsD; infer_instance
theorem IsW.pos {sg : Int} {l : List Int} (h : IsW sg l) (h0 : ¬ sg = 0) : 0 < l.length := by
  rcases Nat.eq_zero_or_pos l.length with hz | hp
  · obtain rfl := List.eq_nil_of_length_eq_zero hz
    exact absurd (by simpa using h.2) h0
  · exact hp

theorem IsDyadic_spec (sg e : Int) (v : Value) (l : List Int) : Spec Tryz.prog 29 [vDyadic sg v e] [] [fList 1 (rInt .i64) v l] (Gives (.bool (decide (IsD sg e l)))) := by
  refine enter Tryz.func29 Tryz.ntmps29 rfl (by kernel_rfl) zCon rfl fun G => ?_
  refine c_isList zMem fun hsl => ?_
  all_goals (((try refine zR ?_) <;> (repeat' (with_reducible first | refine And.intro ?_ ?_ | intro _))) <;> (repeat' ((first | ((with_reducible apply l_callP); exact rfl; exact zEvs; exact rfl; (with_reducible apply IsWhole_spec); (case hF => exact zFsub); (try any_goals (refine propId ?_; omega))) | ((with_reducible apply l_callP); exact rfl; exact zEvs; exact rfl; (with_reducible apply between_spec); (case hF => exact zFsub); (try any_goals (refine propId ?_; omega)))) <;> ((try refine zR ?_) <;> (repeat' (with_reducible first | refine And.intro ?_ ?_ | intro _))))))
  iterate 3 (focus (refine e_gives rfl zRes ?_; first | (have hn : ¬ IsD sg e l := (fun h => absurd h.2.1 (by assumption)); simp [retVal, hn]; done) | (simp_all [retVal, IsD]; done)))
  have hp := IsW.pos (Decidable.of_not_not (by assumption : ¬ ¬ IsW sg l)) (by assumption)
  have h0 := (Decidable.of_not_not (by assumption : ¬ ¬ IsW sg l)).1 _ (List.getElem_mem hp)
  all_goals ((try refine zR ?_) <;> (repeat' (with_reducible first | refine And.intro ?_ ?_ | intro _)))
  have hg : l.getD 0 0 = l[0] := by rw [List.getD_eq_getElem?_getD, List.getElem?_eq_getElem hp]; rfl
  refine e_gives rfl zRes ?_
  simp_all [retVal, IsD]
theorem l03Is_spec (sg e : Int) (v : Value) (l : List Int) : Spec Tryz.prog 103 [vDyadic sg v e] [] [fList 1 (rInt .i64) v l] (Gives (.bool (decide (IsD sg e l)))) := by
  refine enter Tryz.func103 Tryz.ntmps103 rfl (by kernel_rfl) zCon rfl fun G => ?_
  refine c_isList zMem fun hsl => ?_
  all_goals (((try refine zR ?_) <;> (repeat' (with_reducible first | refine And.intro ?_ ?_ | intro _))) <;> (repeat' ((first | ((with_reducible apply l_callP); exact rfl; exact zEvs; exact rfl; (with_reducible apply l02Is_spec); (case hF => exact zFsub); (try any_goals (refine propId ?_; omega))) | ((with_reducible apply l_callP); exact rfl; exact zEvs; exact rfl; (with_reducible apply l01In_spec); (case hF => exact zFsub); (try any_goals (refine propId ?_; omega)))) <;> ((try refine zR ?_) <;> (repeat' (with_reducible first | refine And.intro ?_ ?_ | intro _))))))
  iterate 3 (focus (refine e_gives rfl zRes ?_; first | (have hn : ¬ IsD sg e l := (fun h => absurd h.2.1 (by assumption)); simp [retVal, hn]; done) | (simp_all [retVal, IsD]; done)))
  have hp := IsW.pos (Decidable.of_not_not (by assumption : ¬ ¬ IsW sg l)) (by assumption)
  have h0 := (Decidable.of_not_not (by assumption : ¬ ¬ IsW sg l)).1 _ (List.getElem_mem hp)
  all_goals ((try refine zR ?_) <;> (repeat' (with_reducible first | refine And.intro ?_ ?_ | intro _)))
  have hg : l.getD 0 0 = l[0] := by rw [List.getD_eq_getElem?_getD, List.getElem?_eq_getElem hp]; rfl
  refine e_gives rfl zRes ?_
  simp_all [retVal, IsD]
end Go.Proofs.YtbllgmcpebifhaaGreatDoor.K
end
