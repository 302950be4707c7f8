/- The draws: exact numbers, and seldom something that is none. -/
import Derived.Test.YtbllgmcpebifhaaGreatDoorZVl
import Derived.Test.YtbllgmcpebifhaaGreatDoorZSp

section
namespace Go.Proofs.YtbllgmcpebifhaaGreatDoor.K
open Go Go.RowKit Go.Lib
set_option linter.all false
set_option maxRecDepth 4000
set_option maxHeartbeats 1000000
set_option exponentiation.threshold 20000

/-- Something like an exact number. -/
def AnyB (y : (Int × Int) × Value × List Int) : Prop := InR 16777216 y.2.2 ∧ y.2.2.length ≤ 300 ∧ (-2 ≤ y.1.1 ∧ y.1.1 ≤ 2) ∧ (-2000000000000 ≤ y.1.2 ∧ y.1.2 ≤ 2000000000000) ∧ IsSl y.2.1
abbrev AnyD : Type := {y : (Int × Int) × Value × List Int // AnyB y}
abbrev vAny (y : (Int × Int) × Value × List Int) : Value := vDyadic y.1.1 y.2.1 y.1.2
abbrev fAny (y : (Int × Int) × Value × List Int) : Fact := fList 1 (rInt .i64) y.2.1 y.2.2
def pany (z : Int) : Prop := -2000000000000 ≤ z ∧ z ≤ 2000000000000
theorem sgn_two (v : Int) : -2 ≤ sgn v ∧ sgn v ≤ 2 := by unfold sgn; split; omega; split <;> omega
theorem any_of {v e : Int} {u : Value} (hv : v.natAbs < 2 ^ 7000) (he : -1000000 ≤ e ∧ e ≤ 1000000) (hu : IsSl u) : AnyB ((sgn v, e), u, limbs v.natAbs) :=
  ⟨fun x hx => limbs_range _ x hx, limbs_two 300 (Nat.lt_of_lt_of_le hv (Nat.pow_le_pow_right (by omega) (by omega))), sgn_two v, by dsimp only; omega, hu⟩
theorem zero_any : AnyB ((0, 0), .slice none 0 0, []) := by
  unfold AnyB
  exact ⟨fun x h => (by cases h), by decide, by decide, by decide, none, 0, 0, rfl⟩
theorem l03Spoil_spec (b : Nat) (vc : Value) (code : List Int) (hb : Bytes code) (hl : code.length ≤ 100000) (s : Seed code.length) : Spec Tryz.prog 106 [pt b] [oSrc b vc s] [fCode vc code]
    (PMF (fun i : AnyD × Seed code.length => vAny i.1.1) (fun i => [oSrc b vc i.2]) fun i => [fAny i.1.1]) := by
  refine enter Tryz.func106 Tryz.ntmps106 rfl (by kernel_rfl) zCon rfl fun G => ?_
  refine c_isList (v := vc) zMem fun hsp => ?_
  have hN := l01Next_spec b vc code hb hl
  all_goals ((try refine zR3 ?_) <;> (repeat' (with_reducible first | refine And.intro ?_ ?_ | intro _)))
  rename_i b2
  refine l_callMF rfl rfl zEvs rfl (l03Draw_spec b vc code hb hl s) zTake zFsub fun i => ?_
  obtain ⟨⟨⟨⟨v, e⟩, u⟩, s1⟩, hv, he, hsu⟩ := i
  dsimp only at hv he hsu ⊢
  all_goals ((try refine zR3 ?_) <;> (repeat' (with_reducible first | refine And.intro ?_ ?_ | intro _)))
  rename_i b3
  refine l_callM rfl rfl zEvs rfl (hN s1 30 (by omega)) zTake zFsub fun i => ?_
  obtain ⟨⟨x, hx0, _, hx2⟩, s2⟩ := i
  dsimp only
  all_goals ((try refine zR3 ?_) <;> (repeat' (with_reducible first | refine And.intro ?_ ?_ | intro _)))
  · all_goals (((try refine zR3 ?_) <;> (repeat' (with_reducible first | refine And.intro ?_ ?_ | intro _))) <;> (repeat' ((first | (refine l_pickI pany b vc code hb hl rfl rfl zEvs rfl rfl rfl (by repeat (first | exact PL.nil | refine PL.cons (by exact (show _ ∧ _ from by decide)) ?_)) rfl rfl (fun _ => rfl) (fun _ => rfl) (fun _ => zEvs) rfl zTake zMem fun _ _ => ?_)) <;> ((try refine zR3 ?_) <;> (repeat' (with_reducible first | refine And.intro ?_ ?_ | intro _))))))
    rename_i i
    obtain ⟨⟨e2, he2⟩, s3⟩ := i
    try dsimp only
    have hIs := l03Is_spec (sgn v) e2 u (limbs v.natAbs)
    have hAny : AnyB ((sgn v, e2), u, limbs v.natAbs) := by
      obtain ⟨a1, a2, a3, _, a5⟩ := any_of (e := 0) (Nat.lt_of_lt_of_le hv (Nat.pow_le_pow_right (by omega) (by omega))) (by omega) hsu
      exact ⟨a1, a2, a3, he2, a5⟩
    all_goals (((try refine zR3 ?_) <;> (repeat' (with_reducible first | refine And.intro ?_ ?_ | intro _))) <;> (repeat' ((first | ((with_reducible apply l_callP); exact rfl; exact zEvs; exact rfl; (with_reducible apply hIs); (case hF => exact zFsub); (try any_goals (refine propId ?_; omega))) | ((with_reducible apply l_callM); exact rfl; exact rfl; exact zEvs; exact rfl; (apply hN); (case hL => exact zTake); (case hF => exact zFsub); (try any_goals (refine propId ?_; first | omega | exact zLt)); (with_reducible intro _))) <;> ((try refine zR3 ?_) <;> (repeat' (with_reducible first | refine And.intro ?_ ?_ | intro _))))))
    all_goals first | exact e_pmF (⟨_, hAny⟩, _) rfl zRes zTake zFsub rfl | (refine ends_nilInts .i64 ?_; exact e_pmF (⟨_, zero_any⟩, _) rfl zRes zTake zFsub rfl)
  · refine l_call rfl zEvs rfl (l02Left_spec u v 1 (Nat.le_trans (limbs_two 9 (Nat.lt_of_lt_of_le hv (Nat.pow_le_pow_right (by omega) (by omega)))) (by omega)) (by omega)) zTake zFsub ?_
    rintro _ L' F' ⟨u2, rfl, rfl, rfl⟩
    refine l_isList (.head _) fun hsu2 => ?_
    have hv2 : (v * (2 ^ 1 : Nat)).natAbs < 2 ^ 201 := by rw [natAbs_pw]; exact pw_lt hv _ (by omega)
    generalize v * (2 ^ 1 : Nat) = v2 at hv2 ⊢
    have hIs := l03Is_spec (sgn v2) e u2 (limbs v2.natAbs)
    have hAny : AnyB ((sgn v2, e), u2, limbs v2.natAbs) := any_of (Nat.lt_of_lt_of_le hv2 (Nat.pow_le_pow_right (by omega) (by omega))) (by omega) hsu2
    all_goals (((try refine zR3 ?_) <;> (repeat' (with_reducible first | refine And.intro ?_ ?_ | intro _))) <;> (repeat' ((first | ((with_reducible apply l_callP); exact rfl; exact zEvs; exact rfl; (with_reducible apply hIs); (case hF => exact zFsub); (try any_goals (refine propId ?_; omega))) | ((with_reducible apply l_callM); exact rfl; exact rfl; exact zEvs; exact rfl; (apply hN); (case hL => exact zTake); (case hF => exact zFsub); (try any_goals (refine propId ?_; first | omega | exact zLt)); (with_reducible intro _))) <;> ((try refine zR3 ?_) <;> (repeat' (with_reducible first | refine And.intro ?_ ?_ | intro _))))))
    all_goals first | exact e_pmF (⟨_, hAny⟩, _) rfl zRes zTake zFsub rfl | (refine ends_nilInts .i64 ?_; exact e_pmF (⟨_, zero_any⟩, _) rfl zRes zTake zFsub rfl)
  · refine l_pick2 (x1 := 0) (x2 := 2) (fun z => -2 ≤ z ∧ z ≤ 2) b vc code hb hl (by decide) (by decide) rfl rfl zEvs rfl zEra zTake zMem fun i => ?_
    obtain ⟨⟨sg, hsg⟩, s3⟩ := i
    try dsimp only at hsg ⊢
    have hIs := l03Is_spec sg e u (limbs v.natAbs)
    have hAny : AnyB ((sg, e), u, limbs v.natAbs) := by
      obtain ⟨a1, a2, _, a4, a5⟩ := any_of (e := e) (Nat.lt_of_lt_of_le hv (Nat.pow_le_pow_right (by omega) (by omega))) (by omega) hsu
      exact ⟨a1, a2, hsg, a4, a5⟩
    all_goals (((try refine zR3 ?_) <;> (repeat' (with_reducible first | refine And.intro ?_ ?_ | intro _))) <;> (repeat' ((first | ((with_reducible apply l_callP); exact rfl; exact zEvs; exact rfl; (with_reducible apply hIs); (case hF => exact zFsub); (try any_goals (refine propId ?_; omega))) | ((with_reducible apply l_callM); exact rfl; exact rfl; exact zEvs; exact rfl; (apply hN); (case hL => exact zTake); (case hF => exact zFsub); (try any_goals (refine propId ?_; first | omega | exact zLt)); (with_reducible intro _))) <;> ((try refine zR3 ?_) <;> (repeat' (with_reducible first | refine And.intro ?_ ?_ | intro _))))))
    all_goals first | exact e_pmF (⟨_, hAny⟩, _) rfl zRes zTake zFsub rfl | (refine ends_nilInts .i64 ?_; exact e_pmF (⟨_, zero_any⟩, _) rfl zRes zTake zFsub rfl)
  · refine l_call rfl zEvs rfl (l02Of_spec 1 (by decide)) zTake zFsub ?_
    rintro _ L' F' ⟨u1, rfl, rfl, rfl⟩
    refine l_isList (.head _) fun hsu1 => ?_
    all_goals ((try refine zR3 ?_) <;> (repeat' (with_reducible first | refine And.intro ?_ ?_ | intro _)))
    refine l_call rfl zEvs rfl (l02Left_spec u1 1 4800 (Nat.le_trans (limbs_two 1 (by decide)) (by omega)) (by omega)) zTake zFsub ?_
    rintro _ L' F' ⟨u2, rfl, rfl, rfl⟩
    refine l_isList (.head _) fun hsu2 => ?_
    all_goals ((try refine zR3 ?_) <;> (repeat' (with_reducible first | refine And.intro ?_ ?_ | intro _)))
    refine l_call rfl zEvs rfl (l02Of_spec 1 (by decide)) zTake zFsub ?_
    rintro _ L' F' ⟨u3, rfl, rfl, rfl⟩
    refine l_isList (.head _) fun hsu3 => ?_
    have hw0 : ((1 : Int) * (2 ^ 4800 : Nat)).natAbs < 2 ^ 4801 := by rw [natAbs_pw]; exact pw_lt (show (1 : Int).natAbs < 2 ^ 1 by decide) _ (by omega)
    have hw1 : ((1 : Int) * (2 ^ 4800 : Nat) - 1).natAbs < 2 ^ 4801 := by
      have := pw_pos 4800
      omega
    generalize (1 : Int) * (2 ^ 4800 : Nat) = w at hw0 hw1 ⊢
    all_goals ((try refine zR3 ?_) <;> (repeat' (with_reducible first | refine And.intro ?_ ?_ | intro _)))
    refine l_call rfl zEvs rfl (l02Sub_spec u2 u3 w 1 300 (limbs_two 300 (Nat.lt_of_lt_of_le hw0 (Nat.pow_le_pow_right (by omega) (by omega)))) (limbs_two 300 (Nat.lt_of_lt_of_le (show (1 : Int).natAbs < 2 ^ 1 by decide) (Nat.pow_le_pow_right (by omega) (by omega)))) (by omega)) zTake zFsub ?_
    rintro _ L' F' ⟨u4, rfl, rfl, rfl⟩
    refine l_isList (.head _) fun hsu4 => ?_
    generalize w - 1 = w2 at hw1 ⊢
    all_goals (((try refine zR3 ?_) <;> (repeat' (with_reducible first | refine And.intro ?_ ?_ | intro _))) <;> (repeat' ((first | (refine l_pickI pe b vc code hb hl rfl rfl zEvs rfl rfl rfl (by repeat (first | exact PL.nil | refine PL.cons (by exact (show _ ∧ _ from by decide)) ?_)) rfl rfl (fun _ => rfl) (fun _ => rfl) (fun _ => zEvs) rfl zTake zMem fun _ _ => ?_)) <;> ((try refine zR3 ?_) <;> (repeat' (with_reducible first | refine And.intro ?_ ?_ | intro _))))))
    rename_i i
    obtain ⟨⟨e2, he2⟩, s3⟩ := i
    try dsimp only
    unfold pe at he2
    refine l_call rfl zEvs rfl (l03MakeN_spec u4 w2 e2 (Nat.lt_of_lt_of_le hw1 (Nat.pow_le_pow_right (by omega) (by omega))) (by omega)) zTake zFsub ?_
    rintro _ L' F' ⟨u6, rfl, rfl, rfl⟩
    refine l_isList (.head _) fun hsu6 => ?_
    have htw := twos_blen hw1
    have hne : -1000000 ≤ ne w2 e2 ∧ ne w2 e2 ≤ 1000000 := by unfold ne; split <;> omega
    have hAny : AnyB ((sgn (nv w2), ne w2 e2), u6, limbs (nv w2).natAbs) := any_of (Nat.lt_of_lt_of_le (Nat.lt_of_le_of_lt (nv_le w2) hw1) (Nat.pow_le_pow_right (by omega) (by omega))) hne hsu6
    all_goals ((try refine zR3 ?_) <;> (repeat' (with_reducible first | refine And.intro ?_ ?_ | intro _)))
    exact e_pmF (⟨_, hAny⟩, _) rfl zRes zTake zFsub rfl
  · refine l_pick2 psg b vc code hb hl (.inl rfl) (.inr rfl) rfl rfl zEvs rfl zEra zTake zMem fun i => ?_
    obtain ⟨⟨sg, hsg⟩, s3⟩ := i
    try dsimp only
    have hsg1 : sg.natAbs < 2 ^ 1 := by rcases hsg with rfl | rfl <;> decide
    all_goals ((try refine zR3 ?_) <;> (repeat' (with_reducible first | refine And.intro ?_ ?_ | intro _)))
    refine l_call rfl zEvs rfl (l02Of_spec sg (Nat.lt_of_lt_of_le hsg1 (by decide))) zTake zFsub ?_
    rintro _ L' F' ⟨u1, rfl, rfl, rfl⟩
    refine l_isList (.head _) fun hsu1 => ?_
    all_goals ((try refine zR3 ?_) <;> (repeat' (with_reducible first | refine And.intro ?_ ?_ | intro _)))
    refine l_pick2 (x1 := 5000) (x2 := -5000) pe b vc code hb hl (by unfold pe; decide) (by unfold pe; decide) rfl rfl zEvs rfl zEra zTake zMem fun i => ?_
    obtain ⟨⟨e2, he2⟩, s4⟩ := i
    try dsimp only
    unfold pe at he2
    have hAny : AnyB ((sgn sg, e2), u1, limbs sg.natAbs) := any_of (Nat.lt_of_lt_of_le hsg1 (Nat.pow_le_pow_right (by omega) (by omega))) (by omega) hsu1
    all_goals ((try refine zR3 ?_) <;> (repeat' (with_reducible first | refine And.intro ?_ ?_ | intro _)))
    exact e_pmF (⟨_, hAny⟩, _) rfl zRes zTake zFsub rfl
  · skip
    have hIs := l03Is_spec (sgn v) e u (limbs v.natAbs)
    have hAny : AnyB ((sgn v, e), u, limbs v.natAbs) := any_of (Nat.lt_of_lt_of_le hv (Nat.pow_le_pow_right (by omega) (by omega))) (by omega) hsu
    all_goals (((try refine zR3 ?_) <;> (repeat' (with_reducible first | refine And.intro ?_ ?_ | intro _))) <;> (repeat' ((first | ((with_reducible apply l_callP); exact rfl; exact zEvs; exact rfl; (with_reducible apply hIs); (case hF => exact zFsub); (try any_goals (refine propId ?_; omega))) | ((with_reducible apply l_callM); exact rfl; exact rfl; exact zEvs; exact rfl; (apply hN); (case hL => exact zTake); (case hF => exact zFsub); (try any_goals (refine propId ?_; first | omega | exact zLt)); (with_reducible intro _))) <;> ((try refine zR3 ?_) <;> (repeat' (with_reducible first | refine And.intro ?_ ?_ | intro _))))))
    all_goals first | exact e_pmF (⟨_, hAny⟩, _) rfl zRes zTake zFsub rfl | (refine ends_nilInts .i64 ?_; exact e_pmF (⟨_, zero_any⟩, _) rfl zRes zTake zFsub rfl)
end Go.Proofs.YtbllgmcpebifhaaGreatDoor.K
end

section
/- The draws: two exact numbers; one and a number; one. -/
namespace Go.Proofs.YtbllgmcpebifhaaGreatDoor.K
open Go Go.RowKit Go.Lib
set_option linter.all false
set_option maxRecDepth 4000
set_option maxHeartbeats 1000000
set_option exponentiation.threshold 20000

/-- Something like an exact number is handed back. -/
def PAny (r : Value) (L' : List Own) (F' : List Fact) : Prop := ∃ y : AnyD, r = vAny y.1 ∧ L' = [] ∧ F' = [fAny y.1]
theorem l03NegV_spec (y : AnyD) : Spec Tryz.prog 166 [vAny y.1] [] [fAny y.1] PAny := by
  obtain ⟨⟨⟨sg, e⟩, u, l⟩, hr, hlen, hsg, he, hsu⟩ := y
  dsimp only at hr hlen hsg he hsu ⊢
  have hNeg : Spec Tryz.prog 224 [vWhole sg u] [] [fList 1 (rInt .i64) u l] (fun r L' F' => ∃ v', r = vWhole (if vl 16777216 l = 0 then 0 else 0 - sg) v' ∧ L' = [] ∧ F' = [fList 1 (rInt .i64) v' (limbs (vl 16777216 l))]) := by
    refine enter Tryz.func224 Tryz.ntmps224 rfl (by kernel_rfl) zCon rfl fun G => ?_
    all_goals ((try refine zR3 ?_) <;> (repeat' (with_reducible first | refine And.intro ?_ ?_ | intro _)))
    refine l_call rfl zEvs rfl (l02MakeV_spec (0 - sg) u l (by omega) hr) zTake zFsub ?_
    rintro _ L' F' ⟨v', rfl, rfl, rfl⟩
    refine l_isList (.head _) fun hs' => ?_
    all_goals ((try refine zR3 ?_) <;> (repeat' (with_reducible first | refine And.intro ?_ ?_ | intro _)))
    exact e_resT rfl zRes .nil (fsub_cons (.head _) fsub_nil) ⟨v', rfl, rfl, rfl⟩
  refine enter Tryz.func166 Tryz.ntmps166 rfl (by kernel_rfl) zCon rfl fun G => ?_
  all_goals ((try refine zR3 ?_) <;> (repeat' (with_reducible first | refine And.intro ?_ ?_ | intro _)))
  rename_i bA b2
  refine c_draw ([5, 6], []) [.box bA [.int .i64 sg, u, .int .i64 e] 48] [0, 1, 3, 4, 2, 5, 6] (by kernel_rfl) (by kernel_rfl) ?_
  all_goals ((try refine zD3 ?_) <;> (repeat' (with_reducible first | refine And.intro ?_ ?_ | intro _)))
  refine l_call rfl zEvs rfl hNeg zTake zFsub ?_
  rintro _ L' F' ⟨u', rfl, rfl, rfl⟩
  refine l_isList (.head _) fun hs' => ?_
  have hv := vl_len hr hlen
  have hAny : AnyB ((if vl 16777216 l = 0 then 0 else 0 - sg, e), u', limbs (vl 16777216 l)) :=
    ⟨fun x hx => limbs_range _ x hx, limbs_two 300 hv, by dsimp only; split <;> omega, he, hs'⟩
  all_goals ((try refine zD3 ?_) <;> (repeat' (with_reducible first | refine And.intro ?_ ?_ | intro _)))
  exact e_resT rfl zRes .nil (fsub_cons zMem fsub_nil) ⟨⟨_, hAny⟩, rfl, rfl, rfl⟩
abbrev PTwo : Value → List Own → List Fact → Prop := PMF (fun i : AnyD × AnyD => .tuple #[vAny i.1.1, vAny i.2.1]) (fun _ => []) fun i => [fAny i.1.1, fAny i.2.1]
theorem l03Two_spec (vc : Value) (code : List Int) (hb : Bytes code) (hl : code.length ≤ 100000) : Spec Tryz.prog 91 [vc] [] [fCode vc code] PTwo := by
  refine enter Tryz.func91 Tryz.ntmps91 rfl (by kernel_rfl) zCon rfl fun G => ?_
  refine c_isList (v := vc) zMem fun hsp => ?_
  have hFr := l01From_spec vc code hb hl
  have hN := fun b => l01Next_spec b vc code hb hl
  have hS := fun b => l03Spoil_spec b vc code hb hl
  all_goals (((try refine zR3 ?_) <;> (repeat' (with_reducible first | refine And.intro ?_ ?_ | intro _))) <;> (repeat' ((first | ((with_reducible apply l_callM); exact rfl; exact rfl; exact zEvs; exact rfl; (apply hFr); (case hL => exact zTake); (case hF => exact zFsub); (try any_goals (refine propId ?_; first | omega | exact zLt)); (with_reducible intro _))) <;> ((try refine zR3 ?_) <;> (repeat' (with_reducible first | refine And.intro ?_ ?_ | intro _))))))
  rename_i u
  obtain ⟨b, s⟩ := u
  try dsimp only
  refine l_callMF rfl rfl zEvs rfl (hS b s) zTake zFsub fun i => ?_
  obtain ⟨⟨⟨⟨sg, e⟩, u, l⟩, hc⟩, s1⟩ := i
  have hsu := hc.2.2.2.2
  dsimp only at hsu ⊢
  all_goals ((try refine zR3 ?_) <;> (repeat' (with_reducible first | refine And.intro ?_ ?_ | intro _)))
  refine l_callMF rfl rfl zEvs rfl (hS b s1) zTake zFsub fun i => ?_
  obtain ⟨⟨⟨⟨sg2, e2⟩, u2, l2⟩, hd⟩, s2⟩ := i
  have hsu2 := hd.2.2.2.2
  dsimp only at hsu2 ⊢
  all_goals ((try refine zR3 ?_) <;> (repeat' (with_reducible first | refine And.intro ?_ ?_ | intro _)))
  rename_i b5 b6
  refine l_callM rfl rfl zEvs rfl (hN b s2 8 (by omega)) zTake zFsub fun i => ?_
  obtain ⟨⟨x, hx0, _, hx2⟩, s3⟩ := i
  dsimp only
  all_goals ((try refine zR3 ?_) <;> (repeat' (with_reducible first | refine And.intro ?_ ?_ | intro _)))
  · refine c_draw ([3, 4], []) [.box b5 [.int .i64 sg, u, .int .i64 e] 48] [0, 1, 2, 3, 4] (by kernel_rfl) (by kernel_rfl) ?_
    all_goals ((try refine zD3 ?_) <;> (repeat' (with_reducible first | refine And.intro ?_ ?_ | intro _)))
    refine l_call rfl zEvs rfl (l03NegV_spec ⟨((sg, e), u, l), hc⟩) zTake zFsub ?_
    rintro _ L' F' ⟨⟨⟨⟨sg3, e3⟩, u3, l3⟩, h3⟩, rfl, rfl, rfl⟩
    have hsu3 := h3.2.2.2.2
    dsimp only at hsu3 ⊢
    all_goals ((try refine zD3 ?_) <;> (repeat' (with_reducible first | refine And.intro ?_ ?_ | intro _)))
    exact e_pmF (⟨((sg, e), u, l), hc⟩, ⟨((sg3, e3), u3, l3), h3⟩) rfl zRes zTake zFsub rfl
  · refine c_draw ([3], []) [.box b5 [.int .i64 sg, u, .int .i64 e] 48] [0, 1, 2, 3] (by kernel_rfl) (by kernel_rfl) ?_
    all_goals ((try refine zD3 ?_) <;> (repeat' (with_reducible first | refine And.intro ?_ ?_ | intro _)))
    exact e_pmF (⟨((sg, e), u, l), hc⟩, ⟨((sg, e), u, l), hc⟩) rfl zRes zTake zFsub rfl
  · refine c_draw ([3], []) [.box b5 [.int .i64 sg, u, .int .i64 e] 48, .box b6 [.int .i64 sg2, u2, .int .i64 e2] 48] [0, 1, 2, 3] (by kernel_rfl) (by kernel_rfl) ?_
    all_goals ((try refine zD3 ?_) <;> (repeat' (with_reducible first | refine And.intro ?_ ?_ | intro _)))
    exact e_pmF (⟨((sg, e), u, l), hc⟩, ⟨((sg2, e2), u2, l2), hd⟩) rfl zRes zTake zFsub rfl
theorem DrawAddDyadics_spec (vc : Value) (code : List Int) (hb : Bytes code) (hl : code.length ≤ 100000) : Spec Tryz.prog 23 [vc] [] [fCode vc code] PTwo := by
  refine enter Tryz.func23 Tryz.ntmps23 rfl (by kernel_rfl) zCon rfl fun G => ?_
  refine c_isList (v := vc) zMem fun hsp => ?_
  all_goals ((try refine zR3 ?_) <;> (repeat' (with_reducible first | refine And.intro ?_ ?_ | intro _)))
  refine l_callMF rfl rfl zEvs rfl (l03Two_spec vc code hb hl) zTake zFsub fun i => ?_
  obtain ⟨⟨⟨⟨sg, e⟩, u, l⟩, hc⟩, ⟨⟨⟨sg2, e2⟩, u2, l2⟩, hd⟩⟩ := i
  have hsu := hc.2.2.2.2
  have hsu2 := hd.2.2.2.2
  dsimp only at hsu hsu2 ⊢
  all_goals ((try refine zR3 ?_) <;> (repeat' (with_reducible first | refine And.intro ?_ ?_ | intro _)))
  rename_i b5 b6
  refine c_draw ([3], []) [.box b5 [.int .i64 sg, u, .int .i64 e] 48, .box b6 [.int .i64 sg2, u2, .int .i64 e2] 48] [0, 1, 2, 3] (by kernel_rfl) (by kernel_rfl) ?_
  all_goals ((try refine zD3 ?_) <;> (repeat' (with_reducible first | refine And.intro ?_ ?_ | intro _)))
  exact e_pmF (⟨((sg, e), u, l), hc⟩, ⟨((sg2, e2), u2, l2), hd⟩) rfl zRes zTake zFsub rfl
theorem DrawDyadicText_spec (vc : Value) (code : List Int) (hb : Bytes code) (hl : code.length ≤ 100000) : Spec Tryz.prog 43 [vc] [] [fCode vc code] PAny := by
  refine enter Tryz.func43 Tryz.ntmps43 rfl (by kernel_rfl) zCon rfl fun G => ?_
  refine c_isList (v := vc) zMem fun hsp => ?_
  have hFr := l01From_spec vc code hb hl
  all_goals (((try refine zR3 ?_) <;> (repeat' (with_reducible first | refine And.intro ?_ ?_ | intro _))) <;> (repeat' ((first | ((with_reducible apply l_callM); exact rfl; exact rfl; exact zEvs; exact rfl; (apply hFr); (case hL => exact zTake); (case hF => exact zFsub); (try any_goals (refine propId ?_; first | omega | exact zLt)); (with_reducible intro _))) <;> ((try refine zR3 ?_) <;> (repeat' (with_reducible first | refine And.intro ?_ ?_ | intro _))))))
  rename_i u
  obtain ⟨b, s⟩ := u
  try dsimp only
  refine l_callMF rfl rfl zEvs rfl (l03Spoil_spec b vc code hb hl s) zTake zFsub fun i => ?_
  obtain ⟨⟨⟨⟨sg, e⟩, u, l⟩, hc⟩, s1⟩ := i
  have hsu := hc.2.2.2.2
  dsimp only at hsu ⊢
  all_goals ((try refine zR3 ?_) <;> (repeat' (with_reducible first | refine And.intro ?_ ?_ | intro _)))
  exact e_resT rfl zRes .nil (fsub_cons zMem fsub_nil) ⟨⟨((sg, e), u, l), hc⟩, rfl, rfl, rfl⟩
def pk (z : Int) : Prop := -2000 ≤ z ∧ z ≤ 2000
theorem pk_41 (i : NextR 41) : pk (IntKind.i64.wrap (i.1 - 20)) := by
  have h0 := i.2.1
  have h1 := i.2.2.2 (by decide)
  unfold pk
  rw [IntKind.wrap_i64]
  omega
theorem pk_2000 (i : NextR 2000) : pk (IntKind.i64.wrap (i.1 - 1000)) := by
  have h0 := i.2.1
  have h1 := i.2.2.2 (by decide)
  unfold pk
  rw [IntKind.wrap_i64]
  omega
theorem pk_100 (i : NextR 100) : pk i.1 := by
  have h0 := i.2.1
  have h1 := i.2.2.2 (by decide)
  unfold pk
  omega
theorem DrawFloorDyadic_spec (vc : Value) (code : List Int) (hb : Bytes code) (hl : code.length ≤ 100000) : Spec Tryz.prog 33 [vc] [] [fCode vc code] (PMF (fun i : AnyD × {k : Int // pk k} => .tuple #[vAny i.1.1, .int .i64 i.2.1]) (fun _ => []) fun i => [fAny i.1.1]) := by
  refine enter Tryz.func33 Tryz.ntmps33 rfl (by kernel_rfl) zCon rfl fun G => ?_
  refine c_isList (v := vc) zMem fun hsp => ?_
  have hFr := l01From_spec vc code hb hl
  have hN := fun b => l01Next_spec b vc code hb hl
  all_goals (((try refine zR3 ?_) <;> (repeat' (with_reducible first | refine And.intro ?_ ?_ | intro _))) <;> (repeat' ((first | ((with_reducible apply l_callM); exact rfl; exact rfl; exact zEvs; exact rfl; (apply hFr); (case hL => exact zTake); (case hF => exact zFsub); (try any_goals (refine propId ?_; first | omega | exact zLt)); (with_reducible intro _))) <;> ((try refine zR3 ?_) <;> (repeat' (with_reducible first | refine And.intro ?_ ?_ | intro _))))))
  rename_i u
  obtain ⟨b, s⟩ := u
  try dsimp only
  refine l_callMF rfl rfl zEvs rfl (l03Spoil_spec b vc code hb hl s) zTake zFsub fun i => ?_
  obtain ⟨⟨⟨⟨sg, e⟩, u, l⟩, hc⟩, s1⟩ := i
  have hsu := hc.2.2.2.2
  dsimp only at hsu ⊢
  all_goals (((try refine zR3 ?_) <;> (repeat' (with_reducible first | refine And.intro ?_ ?_ | intro _))) <;> (repeat' ((first | ((with_reducible apply l_callM); exact rfl; exact rfl; exact zEvs; exact rfl; (apply (hN _)); (case hL => exact zTake); (case hF => exact zFsub); (try any_goals (refine propId ?_; first | omega | exact zLt)); (with_reducible intro _)) | (refine l_pickI pk b vc code hb hl rfl rfl zEvs rfl rfl rfl (by repeat (first | exact PL.nil | refine PL.cons (by first | exact pk_41 _ | exact pk_2000 _ | exact pk_100 _ | exact (show _ ∧ _ from by decide)) ?_)) rfl rfl (fun _ => rfl) (fun _ => rfl) (fun _ => zEvs) rfl zTake zMem fun _ _ => ?_)) <;> ((try refine zR3 ?_) <;> (repeat' (with_reducible first | refine And.intro ?_ ?_ | intro _))))))
  rename_i i
  exact e_pmF (⟨((sg, e), u, l), hc⟩, i.1) rfl zRes zTake zFsub rfl
end Go.Proofs.YtbllgmcpebifhaaGreatDoor.K
end
