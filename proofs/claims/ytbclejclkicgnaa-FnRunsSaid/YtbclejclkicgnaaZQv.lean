/- The draws: floats and numbers. -/
import Derived.Test.YtbclejclkicgnaaZQt

section
namespace Go.Proofs.Ytbclejclkicgnaa.K
open Go Go.RowKit
set_option linter.all false
set_option maxRecDepth 4000
set_option maxHeartbeats 1000000

/-- A float is drawn; a number is drawn; a whole number of a kind is drawn. -/
abbrev PSF (b : Nat) (vc : Value) (N : Nat) : Value → List Own → List Fact → Prop := PM (fun i : Nat × Seed N => .float .f64 i.1) fun i => [oSrc b vc i.2]
abbrev PSC (b : Nat) (vc : Value) (N : Nat) : Value → List Own → List Fact → Prop := PM (fun i : (Nat × Nat) × Seed N => .complex .f64 i.1.1 i.1.2) fun i => [oSrc b vc i.2]
abbrev PSI (b : Nat) (vc : Value) (N : Nat) (p : Int → Prop) : Value → List Own → List Fact → Prop := PM (fun i : {x : Int // p x} × Seed N => .int .i64 i.1.1) fun i => [oSrc b vc i.2]
theorem l01Bits_spec (b : Nat) (vc : Value) (code : List Int) (hb : Bytes code) (hl : code.length ≤ 100000) (s : Seed code.length) : Spec Try.prog 67 [pt b] [oSrc b vc s] [fCode vc code] (PSF b vc code.length) := by
  refine enter Try.func67 Try.ntmps67 rfl (by kernel_rfl) zCon rfl fun G => ?_
  have hN := l01Next_spec b vc code hb hl
  have hS := fun x (k : {k : Int // InI k}) => l01Scale_spec x k.1 k.2
  all_goals (((try refine zR3 ?_) <;> (repeat' (with_reducible first | refine And.intro ?_ ?_ | intro _))) <;> (repeat' ((first | ((with_reducible apply l_callM); exact rfl; exact rfl; exact zEvs; exact rfl; (apply hN); (case hL => exact zTake); (case hF => exact zFsub); (try any_goals (refine propId ?_; omega)); (with_reducible intro _)) | ((with_reducible apply l_callM); exact rfl; exact rfl; exact zEvs; exact rfl; (apply hS); (case hL => exact zTake); (case hF => exact zFsub); (try any_goals (refine propId ?_; omega)); (with_reducible intro _)) | (refine l_pickI InI b vc code hb hl rfl rfl zEvs rfl rfl rfl (by repeat (first | exact PL.nil | refine PL.cons (by first | exact wrap_in _ | exact (show _ ∧ _ from by decide) | exact (show _ ∧ _ from by omega)) ?_)) rfl rfl (fun _ => rfl) (fun _ => rfl) (fun _ => zEvs) rfl zTake zMem fun _ _ => ?_)) <;> ((try refine zR3 ?_) <;> (repeat' (with_reducible first | refine And.intro ?_ ?_ | intro _))))))
  all_goals exact e_pm (_, _) rfl zRes (.cons .head .nil) rfl
theorem l01Float_spec (b : Nat) (vc : Value) (code : List Int) (hb : Bytes code) (hl : code.length ≤ 100000) (s : Seed code.length) : Spec Try.prog 54 [pt b] [oSrc b vc s] [fCode vc code] (PSF b vc code.length) := by
  refine enter Try.func54 Try.ntmps54 rfl (by kernel_rfl) zCon rfl fun G => ?_
  have hN := l01Next_spec b vc code hb hl
  have hB := l01Bits_spec b vc code hb hl
  all_goals (((try refine zR3 ?_) <;> (repeat' (with_reducible first | refine And.intro ?_ ?_ | intro _))) <;> (repeat' ((first | ((with_reducible apply l_callM); exact rfl; exact rfl; exact zEvs; exact rfl; (apply hN); (case hL => exact zTake); (case hF => exact zFsub); (try any_goals (refine propId ?_; omega)); (with_reducible intro _)) | ((with_reducible apply l_callM); exact rfl; exact rfl; exact zEvs; exact rfl; (apply hB); (case hL => exact zTake); (case hF => exact zFsub); (try any_goals (refine propId ?_; omega)); (with_reducible intro _)) | ((with_reducible apply l_callM); exact rfl; exact rfl; exact zEvs; exact rfl; (apply l01Huge_spec); (case hL => exact zTake); (case hF => exact zFsub); (try any_goals (refine propId ?_; omega)); (with_reducible intro _)) | (refine l_pickI InI b vc code hb hl rfl rfl zEvs rfl rfl rfl (by repeat (first | exact PL.nil | refine PL.cons (by first | exact wrap_in _ | exact (show _ ∧ _ from by decide) | exact (show _ ∧ _ from by omega)) ?_)) rfl rfl (fun _ => rfl) (fun _ => rfl) (fun _ => zEvs) rfl zTake zMem fun _ _ => ?_)) <;> ((try refine zR3 ?_) <;> (repeat' (with_reducible first | refine And.intro ?_ ?_ | intro _))))))
  all_goals (first | (exfalso; omega) | skip)
  all_goals exact e_pm (_, _) rfl zRes (.cons .head .nil) rfl
theorem l01Draw_spec (b : Nat) (vc : Value) (code : List Int) (hb : Bytes code) (hl : code.length ≤ 100000) (s : Seed code.length) : Spec Try.prog 28 [pt b] [oSrc b vc s] [fCode vc code] (PSC b vc code.length) := by
  refine enter Try.func28 Try.ntmps28 rfl (by kernel_rfl) zCon rfl fun G => ?_
  have hN := l01Next_spec b vc code hb hl
  have hB := l01Float_spec b vc code hb hl
  all_goals (((try refine zR3 ?_) <;> (repeat' (with_reducible first | refine And.intro ?_ ?_ | intro _))) <;> (repeat' ((first | ((with_reducible apply l_callM); exact rfl; exact rfl; exact zEvs; exact rfl; (apply hN); (case hL => exact zTake); (case hF => exact zFsub); (try any_goals (refine propId ?_; omega)); (with_reducible intro _)) | ((with_reducible apply l_callM); exact rfl; exact rfl; exact zEvs; exact rfl; (apply hB); (case hL => exact zTake); (case hF => exact zFsub); (try any_goals (refine propId ?_; omega)); (with_reducible intro _))) <;> ((try refine zR3 ?_) <;> (repeat' (with_reducible first | refine And.intro ?_ ?_ | intro _))))))
  all_goals (first | (exfalso; omega) | skip)
  all_goals exact e_pm ((_, _), _) rfl zRes (.cons .head .nil) rfl
theorem l04Number_spec (b : Nat) (vc : Value) (code : List Int) (hb : Bytes code) (hl : code.length ≤ 100000) (s : Seed code.length) : Spec Try.prog 49 [pt b] [oSrc b vc s] [fCode vc code] (PSC b vc code.length) := by
  refine enter Try.func49 Try.ntmps49 rfl (by kernel_rfl) zCon rfl fun G => ?_
  have hN := l01Next_spec b vc code hb hl
  all_goals (((try refine zR3 ?_) <;> (repeat' (with_reducible first | refine And.intro ?_ ?_ | intro _))) <;> (repeat' ((first | ((with_reducible apply l_callM); exact rfl; exact rfl; exact zEvs; exact rfl; (apply hN); (case hL => exact zTake); (case hF => exact zFsub); (try any_goals (refine propId ?_; omega)); (with_reducible intro _)) | (refine l_pickI InI b vc code hb hl rfl rfl zEvs rfl rfl rfl (by repeat (first | exact PL.nil | refine PL.cons (by first | exact wrap_in _ | exact (show _ ∧ _ from by decide) | exact (show _ ∧ _ from by omega)) ?_)) rfl rfl (fun _ => rfl) (fun _ => rfl) (fun _ => zEvs) rfl zTake zMem fun _ _ => ?_)) <;> ((try refine zR3 ?_) <;> (repeat' (with_reducible first | refine And.intro ?_ ?_ | intro _))))))
  all_goals (first | (exfalso; omega) | skip)
  all_goals exact e_pm ((_, _), _) rfl zRes (.cons .head .nil) rfl
def InK (z : Int) : Prop := -1 ≤ z ∧ z ≤ 2
theorem l07DrawKind_spec (b : Nat) (vc : Value) (code : List Int) (hb : Bytes code) (hl : code.length ≤ 100000) (s : Seed code.length) : Spec Try.prog 15 [pt b] [oSrc b vc s] [fCode vc code] (PSI b vc code.length InK) := by
  refine enter Try.func15 Try.ntmps15 rfl (by kernel_rfl) zCon rfl fun G => ?_
  all_goals (((try refine zR3 ?_) <;> (repeat' (with_reducible first | refine And.intro ?_ ?_ | intro _))) <;> (repeat' ((first | (refine l_pickI InK b vc code hb hl rfl rfl zEvs rfl rfl rfl (by repeat (first | exact PL.nil | refine PL.cons (show _ ∧ _ from by decide) ?_)) rfl rfl (fun _ => rfl) (fun _ => rfl) (fun _ => zEvs) rfl zTake zMem fun _ _ => ?_)) <;> ((try refine zR3 ?_) <;> (repeat' (with_reducible first | refine And.intro ?_ ?_ | intro _))))))
  all_goals (first | (exfalso; omega) | skip)
  all_goals exact e_pm (_, _) rfl zRes (.cons .head .nil) rfl
end Go.Proofs.Ytbclejclkicgnaa.K
end

section
/- The draws: the source. -/
namespace Go.Proofs.Ytbclejclkicgnaa.K
open Go Go.RowKit
set_option linter.all false
set_option maxRecDepth 60000
set_option maxHeartbeats 1000000

theorem l01From_spec (vc : Value) (code : List Int) (hb : Bytes code) (hl : code.length ≤ 100000) : Spec Try.prog 12 [vc] [] [fCode vc code] (PM (fun i : Nat × Seed code.length => pt i.1) fun i => [oSrc i.1 vc i.2]) := by
  refine enter Try.func12 Try.ntmps12 rfl (by kernel_rfl) zCon rfl fun G => ?_
  refine c_isList (v := vc) zMem fun hsp => ?_
  refine c_lenList (v := vc) zMem fun hll => ?_
  all_goals ((try refine zR3 ?_) <;> (repeat' (with_reducible first | refine And.intro ?_ ?_ | intro _)))
  rename_i b
  refine c_while (ι := {s : Nat × Int // s.1 ≤ code.length ∧ 0 ≤ s.2 ∧ s.2 < 18446744073709551616}) (κ := {h : Int // 0 ≤ h ∧ h < 18446744073709551616})
    (fun s => [(4, .int .i64 (s.1.1 : Int)), (3, pt b), (0, vc)]) (fun s => [.box b [vc, .int .i64 0, .int .u64 s.1.2] 62]) (fun _ => [fCode vc code]) (fun s => code.length - s.1.1)
    (fun _ => [(3, pt b), (0, vc)]) (fun s => [.box b [vc, .int .i64 0, .int .u64 s.1] 62]) (fun _ => [fCode vc code]) ⟨(0, 6737 + (code.length : Int)), Nat.zero_le _, by dsimp only; omega⟩ (fun _ _ s => s.start zSub zRfl zFsub) ?_ ?_
  · rintro ⟨⟨i, h⟩, hi, h0, h1⟩
    dsimp only at hi h0 h1 ⊢
    by_cases hlt : i < code.length
    · obtain ⟨w, hw⟩ : ∃ w, code[i]? = some w := ⟨_, List.getElem?_eq_getElem hlt⟩
      obtain ⟨hw0, hw1⟩ := hb w (List.mem_of_getElem? hw)
      obtain ⟨z1, hz1⟩ : ∃ z, IntKind.u64.wrap (h * 1099511628211) = z := ⟨_, rfl⟩
      all_goals ((try refine zR3 ?_) <;> (repeat' (with_reducible first | refine And.intro ?_ ?_ | intro _)))
      all_goals (first | (exfalso; omega) | skip)
      · refine c_draw ([15], []) [.box b [vc, .int .i64 0, .int .u64 h] 62] [0, 1, 2, 3, 4, 5, 6, 7, 8, 9, 10, 11, 12, 13, 14, 15] (by kernel_rfl) (by kernel_rfl) ?_
        all_goals ((try refine zD3 ?_) <;> (repeat' (with_reducible first | refine And.intro ?_ ?_ | intro _)))
        have hz : 0 ≤ z1 ∧ z1 < 18446744073709551616 := by rw [← hz1, IntKind.wrap_u64]; omega
        exact e_again ⟨(i + 1, ((z1 + w) % 18446744073709551616 + 11) % 18446744073709551616), by omega, by dsimp only; omega⟩ (by dsimp only; omega) zSub rfl zFsub
      · exact e_out ⟨h, h0, h1⟩ zSub rfl zFsub
    · all_goals ((try refine zR3 ?_) <;> (repeat' (with_reducible first | refine And.intro ?_ ?_ | intro _)))
      all_goals (first | (exfalso; omega) | skip)
      exact e_out ⟨h, h0, h1⟩ zSub rfl zFsub
  · rintro ⟨h, h0, h1⟩
    all_goals ((try refine zR3 ?_) <;> (repeat' (with_reducible first | refine And.intro ?_ ?_ | intro _)))
    exact e_pm (b, ⟨(0, h), by dsimp only; omega⟩) rfl zRes zTake rfl
end Go.Proofs.Ytbclejclkicgnaa.K
end
