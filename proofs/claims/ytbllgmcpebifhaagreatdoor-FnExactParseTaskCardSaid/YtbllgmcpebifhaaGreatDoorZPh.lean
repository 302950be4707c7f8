/- The program's reading of tasks. -/
import Derived.Test.YtbllgmcpebifhaaGreatDoorZPf

section
namespace Go.Proofs.YtbllgmcpebifhaaGreatDoor.K
open Go Go.RowKit Go.Lib
set_option linter.all false
set_option maxRecDepth 4000
set_option maxHeartbeats 1000000

/-- What the program's ParseTask hands back: rows that are owned. -/
def PTkI (t : List UInt8) (r : Value) (L' : List Own) (F' : List Fact) : Prop := ∃ k v1 v2 zs ys z code, r = .tuple #[vTask k v1 v2 z, .int .i64 code] ∧ L' = [.row v1 24 1 zs.length (zs.map cx), .row v2 24 1 ys.length (ys.map cx)] ∧ F' = [] ∧
  ((code = 0 ∧ PTask t k zs ys z) ∨ (code = 6 ∧ (k = 0 ∧ zs = [] ∧ ys = [] ∧ z = (0, 0)) ∧ ∀ k zs ys z, ¬ PTask t k zs ys z))
theorem pget_len {t : List UInt8} (i : Nat) : (pget t i).length ≤ t.length := by
  unfold pget
  rw [List.getD_eq_getElem?_getD]
  rcases h : (spl 32 t ++ [[], [], []])[i]? with _ | w
  · simp
  · have hm := List.mem_of_getElem? h
    rcases List.mem_append.1 hm with hm | hm
    · exact (spl_mem 32 t w hm).1
    · simp at hm
      subst hm
      simp
theorem lentBB {L : List Own} {F : List Fact} {φ χ : Fact} (h : ∀ w, Owns w L → φ.holds w (fun _ => False)) (h' : ∀ w, Owns w L → χ.holds w (fun _ => False)) : ∀ ψ, ψ ∈ [φ, χ] → ψ ∈ F ∨ (∀ w, Owns w L → ψ.holds w (fun _ => False)) := fun ψ hψ => by
  cases hψ with
  | head => exact .inr h
  | tail _ hψ => rw [List.mem_singleton.1 hψ]; exact .inr h'
theorem lentBBFF {L : List Own} {F : List Fact} {φ χ ρ σ : Fact} (h : ∀ w, Owns w L → φ.holds w (fun _ => False)) (h' : ∀ w, Owns w L → χ.holds w (fun _ => False)) (h3 : ρ ∈ F) (h4 : σ ∈ F) : ∀ ψ, ψ ∈ [φ, χ, ρ, σ] → ψ ∈ F ∨ (∀ w, Owns w L → ψ.holds w (fun _ => False)) := fun ψ hψ => by
  simp only [List.mem_cons, List.not_mem_nil, or_false] at hψ
  rcases hψ with rfl | rfl | rfl | rfl
  · exact .inr h
  · exact .inr h'
  · exact .inl h3
  · exact .inl h4
theorem PPol.finN {t : List UInt8} {zs : List (Nat × Nat)} (h : PPol t zs) : FinN zs := fun z hz => by
  obtain ⟨k, hk, rfl⟩ := List.getElem_of_mem hz
  obtain ⟨x, y, _, ⟨x64, v, e, a, i1, i2, i3, i4⟩, ⟨y64, w, f, b, i5, i6, i7, i8⟩⟩ := h.2.1 k _ _ (List.getElem?_eq_getElem (by have := h.1; omega)) (List.getElem?_eq_getElem hk)
  exact ⟨⟨x64, a, i2⟩, ⟨y64, b, i6⟩⟩
theorem PPol.finL {t : List UInt8} {zs : List (Nat × Nat)} (h : PPol t zs) : FinL zs := h.2.1.fin (by rw [h.1]; exact Nat.le_refl _)
theorem finN_nil : FinN [] := fun z hz => by cases hz
theorem none_first {t : List UInt8} (h : ∀ ys, ¬ PPol (pget t 1) ys) : ∀ k zs ys z, ¬ PTask t k zs ys z := fun k zs ys z hP => h _ hP.first.2
theorem implTask_spec (t : List UInt8) (hl : t.length ≤ 2000000) : Spec Tryz.prog 50 [.string ⟨t.toArray⟩] [] [fMax, fSyn, fRng, fTab, fTz] (PTkI t) := by
  refine enter Tryz.func50 Tryz.ntmps50 rfl (by kernel_rfl) zCon rfl fun G => ?_
  all_goals ((try refine zR2 ?_) <;> (repeat' (with_reducible first | refine And.intro ?_ ?_ | intro _)))
  rename_i b2
  refine l_call rfl zEvs rfl (Split_spec t hl) zTake zFsub ?_
  rintro v L' F' ⟨rfl, rfl⟩
  refine l_isRow (v := v) (.own (.head _)) fun hsv _ => ?_
  have hwl := spl_len 32 t
  all_goals ((try refine zR2 ?_) <;> (repeat' (with_reducible first | refine And.intro ?_ ?_ | intro _)))
  refine l_lit (s := 1) (pv := [(0, str []), (1, str []), (2, str [])]) (cs := [str [], str [], str []]) rfl rfl (fun a s => rfl) (by omega) (by kernel_rfl) rfl (by omega) fun v3 => ?_
  refine l_appendRow rfl rfl rfl rfl rfl rfl (.head _) (fun v' => .tail .head) (by intro y hy; simp at hy; subst hy; rfl) (by simp only [maxLen]; omega) (by omega) fun v4 => ?_
  obtain ⟨ws, hws⟩ : ∃ ws, ws = spl 32 t ++ [[], [], []] := ⟨_, rfl⟩
  have hwsl : (spl 32 t).length + 3 = ws.length := by rw [hws]; simp
  have hwsm : (spl 32 t).map str ++ [str [], str [], str []] = ws.map str := by rw [hws]; simp
  rw [hwsl, hwsm]
  have hws1 : 1 < ws.length := by have := List.length_pos_iff.2 (spl_ne 32 t); omega
  have hg : ∀ i, i < ws.length → ws[i]? = some (pget t i) := fun i hi => by
    unfold pget
    rw [← hws, List.getD_eq_getElem?_getD, List.getElem?_eq_getElem hi]
    rfl
  have hg0 := hg 0 (by omega)
  have hg1 := hg 1 hws1
  have hg3 := hg 3 (by have := List.length_pos_iff.2 (spl_ne 32 t); omega)
  have hws4 : ws.length ≤ 3000000 := by omega
  have hws3 : 3 < ws.length := by have := List.length_pos_iff.2 (spl_ne 32 t); omega
  clear hws hwsm hg
  clear hwsl hwl
  refine l_isRow (v := v4) (.own (.tail _ (.head _))) fun hsv4 _ => ?_
  all_goals ((try refine zR2 ?_) <;> (repeat' (with_reducible first | refine And.intro ?_ ?_ | intro _)))
  refine l_call rfl zEvs rfl (implPoly_spec (pget t 1) (Nat.le_trans (pget_len 1) hl)) zTake zFsub ?_
  rintro _ L' F' ⟨u, zs, code, rfl, rfl, rfl, hc⟩
  refine l_isRow (v := u) (.own (.head _)) fun hsu _ => ?_
  rcases hc with ⟨rfl, hPz⟩ | ⟨rfl, rfl, hno⟩
  · all_goals ((try refine zR2 ?_) <;> (repeat' (with_reducible first | refine And.intro ?_ ?_ | intro _)))
    refine c_while (ι := { k : Nat // k ≤ 6 ∧ ∀ (j : Nat) zs ys z, j < k → ¬ PTask t (j : Int) zs ys z }) (κ := { _u : Unit // ∀ k zs ys z, ¬ PTask t k zs ys z })
      (fun k => [(4, v4), (5, u), (7, .int .i64 (k.1 : Int)), (2, ptr b2), (0, .string ⟨t.toArray⟩)]) (fun _ => [.row u 24 1 zs.length (zs.map cx), .row v4 9 1 ws.length (ws.map str), .box b2 [.int .i64 0, .slice none 0 0, .slice none 0 0, .complex .f64 0 0] 71]) (fun _ => [fMax, fSyn, fRng, fTab, fTz]) (fun k => 6 - k.1)
      (fun _ => [(2, ptr b2)]) (fun _ => [.box b2 [.int .i64 0, .slice none 0 0, .slice none 0 0, .complex .f64 0 0] 71]) (fun _ => []) ⟨0, Nat.zero_le _, fun j _ _ _ h => absurd h (Nat.not_lt_zero _)⟩ (fun a w s => (s.take (L' := [.row u 24 1 zs.length (zs.map cx), .row v4 9 1 ws.length (ws.map str), .box b2 [.int .i64 0, .slice none 0 0, .slice none 0 0, .complex .f64 0 0] 71]) zTake).start zSub rfl zFsub) ?_ ?_
    · rintro ⟨k, hk6, hno⟩
      dsimp only at hk6 hno ⊢
      by_cases hk : k ≤ 5
      · have hkk : (0 : Int) ≤ (k : Int) ∧ (k : Int) ≤ 5 := by omega
        have hnx : (∀ zs ys z, ¬ PTask t (k : Int) zs ys z) → ∀ (j : Nat) zs ys z, j < k + 1 → ¬ PTask t (j : Int) zs ys z := fun h j zs ys z hj => by
          by_cases hjk : j = k
          · subst hjk; exact h zs ys z
          · exact hno j zs ys z (by omega)
        have hW := taskWords_spec (k : Int)
        have hS := hasSecond_spec (k : Int)
        by_cases hn : (tw (k : Int)).1 = pget t 0
        · all_goals (((try refine zR2 ?_) <;> (repeat' (with_reducible first | refine And.intro ?_ ?_ | intro _))) <;> (repeat' ((first | ((with_reducible apply l_callP); exact rfl; exact zEvs; exact rfl; (with_reducible apply hW); (case hF => exact zFsub); (try any_goals (refine propId ?_; omega)))) <;> ((try refine zR2 ?_) <;> (repeat' (with_reducible first | refine And.intro ?_ ?_ | intro _))))))
          all_goals (first | (exfalso; omega) | skip)
          all_goals first | (exfalso; contradiction) | skip
          rename_i b8 _
          refine l_callP rfl zEvs rfl hS zFsub ?_
          by_cases hk2 : k2 (k : Int)
          · rw [decide_eq_true hk2]
            have hk1 : ¬ (k : Int) = 1 := (tw_two hkk).2.2.2 hk2
            all_goals ((try refine zR2 ?_) <;> (repeat' (with_reducible first | refine And.intro ?_ ?_ | intro _)))
            refine l_call rfl zEvs rfl (implPoly_spec (pget t 3) (Nat.le_trans (pget_len 3) hl)) zTake zFsub ?_
            rintro _ L' F' ⟨v2, ys, c2, rfl, rfl, rfl, hc2⟩
            refine l_isRow (v := v2) (.own (.head _)) fun hsv2 _ => ?_
            all_goals ((try refine zR2 ?_) <;> (repeat' (with_reducible first | refine And.intro ?_ ?_ | intro _)))
            all_goals first | (exfalso; contradiction) | skip
            have hy : FinL ys ∧ FinN ys ∧ ys.length ≤ 100 := by
              rcases hc2 with ⟨_, h⟩ | ⟨_, rfl, _⟩
              · exact ⟨h.finL, h.finN, by have := h.2.2.2.1; omega⟩
              · exact ⟨finL_nil, finN_nil, Nat.zero_le _⟩
            have hzl : zs.length ≤ 100 ∧ zs ≠ [] := ⟨by have := hPz.2.2.2.1; omega, fun e => by have := hPz.2.2.1; rw [e] at this; simp at this⟩
            have hI := IsTask_spec (k : Int) u v2 zs ys (0, 0) hkk hPz.finL hy.1 hzl.1 hy.2.2 ⟨.inl hk2, .inr ⟨hk1, rfl⟩⟩
            have hst : Tst t (k : Int) zs ys (0, 0) := ⟨hPz, fun _ => hc2.elim (fun h => .inl h.2) (fun h => .inr h.2), fun h => absurd hk2 h, fun h => absurd h hk1, fun _ => rfl⟩
            refine l_callH rfl zEvs rfl hI (lentBB (loanCx (.tail _ (.tail _ (.head _)))) (loanCx (.head _))) ?_
            by_cases hOk : IsPol zs ∧ (k2 (k : Int) → IsPol ys)
            · rw [decide_eq_true hOk]
              have hT := ttext_spec (k : Int) u v2 zs ys (0, 0) hkk hPz.finN hy.2.1 ⟨⟨by omega, 0, fv_zero⟩, ⟨by omega, 0, fv_zero⟩⟩ hzl ⟨hy.2.2, fun _ e => by have := (hOk.2 hk2).1; rw [e] at this; simp at this⟩
              obtain ⟨T, hTT⟩ : ∃ T, T = ttext (k : Int) zs ys (0, 0) := ⟨_, rfl⟩
              rw [← hTT] at hT
              all_goals ((try refine zR2 ?_) <;> (repeat' (with_reducible first | refine And.intro ?_ ?_ | intro _)))
              refine l_callH rfl zEvs rfl hT (lentBBFF (loanCx (.tail _ (.tail _ (.head _)))) (loanCx (.head _)) zMem zMem) ?_
              by_cases htx : T = t
              · all_goals ((try refine zR2 ?_) <;> (repeat' (with_reducible first | refine And.intro ?_ ?_ | intro _)))
                all_goals first | (exfalso; contradiction) | skip
                exact e_resT rfl zRes (Lo := [.row u 24 1 zs.length (zs.map cx), .row v2 24 1 ys.length (ys.map cx)]) zTake fsub_nil ⟨k, u, v2, zs, ys, (0, 0), 0, rfl, rfl, rfl, .inl ⟨rfl, tst_yes hkk hst hOk.2 (by rw [← hTT]; exact htx)⟩⟩
              · all_goals ((try refine zR2 ?_) <;> (repeat' (with_reducible first | refine And.intro ?_ ?_ | intro _)))
                all_goals first | (exfalso; contradiction) | skip
                refine ends_take (L' := [.row u 24 1 zs.length (zs.map cx), .row v4 9 1 ws.length (ws.map str), .box b2 [.int .i64 0, .slice none 0 0, .slice none 0 0, .complex .f64 0 0] 71]) zTake ?_
                refine e_again ⟨k + 1, by omega, hnx fun zs' ys' z' hP => ?_⟩ (by dsimp only; omega) zSub rfl zFsub
                obtain ⟨_, _, _, _, _, h7⟩ := tst_no hP hst
                exact htx (hTT.trans h7)
            · rw [decide_eq_false hOk]
              all_goals ((try refine zR2 ?_) <;> (repeat' (with_reducible first | refine And.intro ?_ ?_ | intro _)))
              refine ends_take (L' := [.row u 24 1 zs.length (zs.map cx), .row v4 9 1 ws.length (ws.map str), .box b2 [.int .i64 0, .slice none 0 0, .slice none 0 0, .complex .f64 0 0] 71]) zTake ?_
              refine e_again ⟨k + 1, by omega, hnx fun zs' ys' z' hP => ?_⟩ (by dsimp only; omega) zSub rfl zFsub
              obtain ⟨_, _, _, h5, h6, _⟩ := tst_no hP hst
              exact hOk ⟨h5, h6⟩
          · rw [decide_eq_false hk2]
            all_goals ((try refine zR2 ?_) <;> (repeat' (with_reducible first | refine And.intro ?_ ?_ | intro _)))
            · have hk1 : (k : Int) = 1 := by assumption
              refine l_call rfl zEvs rfl (parseNumber_spec (pget t 3) (Nat.le_trans (pget_len 3) hl)) zTake zFsub ?_
              rintro _ L' F' ⟨z, c, rfl, hz1, hz2, hzf, rfl, rfl⟩
              obtain ⟨⟨x64, A, hA⟩, ⟨y64, B, hB⟩⟩ := hzf
              all_goals ((try refine zR2 ?_) <;> (repeat' (with_reducible first | refine And.intro ?_ ?_ | intro _)))
              refine l_nilRow (e := 24) 1 ?_
              have hzl : zs.length ≤ 100 ∧ zs ≠ [] := ⟨by have := hPz.2.2.2.1; omega, fun e => by have := hPz.2.2.1; rw [e] at this; simp at this⟩
              have hI := IsTask_spec (k : Int) u (.slice none 0 0) zs [] z hkk hPz.finL finL_nil hzl.1 (Nat.zero_le _) ⟨.inr rfl, .inl ⟨hk1, (A, B), hA, hB⟩⟩
              have hst : Tst t (k : Int) zs [] z := ⟨hPz, fun h => absurd h hk2, fun _ => rfl, fun _ => ⟨⟨⟨x64, A, hA⟩, ⟨y64, B, hB⟩⟩, by cases c with | true => exact .inl (hz1 rfl) | false => exact .inr (hz2 rfl)⟩, fun h => absurd hk1 h⟩
              refine l_callH rfl zEvs rfl hI (lentBB (loanCx (.tail _ (.tail _ (.head _)))) (loanCx (.head _))) ?_
              by_cases hOk : IsPol zs ∧ (k2 (k : Int) → IsPol [])
              · rw [decide_eq_true hOk]
                have hT := ttext_spec (k : Int) u (.slice none 0 0) zs [] z hkk hPz.finN finN_nil ⟨⟨x64, A, hA⟩, ⟨y64, B, hB⟩⟩ hzl ⟨Nat.zero_le _, fun e => absurd e hk2⟩
                obtain ⟨T, hTT⟩ : ∃ T, T = ttext (k : Int) zs [] z := ⟨_, rfl⟩
                rw [← hTT] at hT
                all_goals ((try refine zR2 ?_) <;> (repeat' (with_reducible first | refine And.intro ?_ ?_ | intro _)))
                refine l_callH rfl zEvs rfl hT (lentBBFF (loanCx (.tail _ (.tail _ (.head _)))) (loanCx (.head _)) zMem zMem) ?_
                by_cases htx : T = t
                · all_goals ((try refine zR2 ?_) <;> (repeat' (with_reducible first | refine And.intro ?_ ?_ | intro _)))
                  all_goals first | (exfalso; contradiction) | skip
                  exact e_resT rfl zRes (Lo := [.row u 24 1 zs.length (zs.map cx), .row (.slice none 0 0) 24 1 0 []]) zTake fsub_nil ⟨k, u, .slice none 0 0, zs, [], z, 0, rfl, rfl, rfl, .inl ⟨rfl, tst_yes hkk hst hOk.2 (by rw [← hTT]; exact htx)⟩⟩
                · all_goals ((try refine zR2 ?_) <;> (repeat' (with_reducible first | refine And.intro ?_ ?_ | intro _)))
                  all_goals first | (exfalso; contradiction) | skip
                  refine ends_take (L' := [.row u 24 1 zs.length (zs.map cx), .row v4 9 1 ws.length (ws.map str), .box b2 [.int .i64 0, .slice none 0 0, .slice none 0 0, .complex .f64 0 0] 71]) zTake ?_
                  refine e_again ⟨k + 1, by omega, hnx fun zs' ys' z' hP => ?_⟩ (by dsimp only; omega) zSub rfl zFsub
                  obtain ⟨_, _, _, _, _, h7⟩ := tst_no hP hst
                  exact htx (hTT.trans h7)
              · rw [decide_eq_false hOk]
                all_goals ((try refine zR2 ?_) <;> (repeat' (with_reducible first | refine And.intro ?_ ?_ | intro _)))
                refine ends_take (L' := [.row u 24 1 zs.length (zs.map cx), .row v4 9 1 ws.length (ws.map str), .box b2 [.int .i64 0, .slice none 0 0, .slice none 0 0, .complex .f64 0 0] 71]) zTake ?_
                refine e_again ⟨k + 1, by omega, hnx fun zs' ys' z' hP => ?_⟩ (by dsimp only; omega) zSub rfl zFsub
                obtain ⟨_, _, _, h5, h6, _⟩ := tst_no hP hst
                exact hOk ⟨h5, h6⟩
            · have hk1 : ¬ (k : Int) = 1 := by assumption
              refine l_nilRow (e := 24) 1 ?_
              have hzl : zs.length ≤ 100 ∧ zs ≠ [] := ⟨by have := hPz.2.2.2.1; omega, fun e => by have := hPz.2.2.1; rw [e] at this; simp at this⟩
              have hI := IsTask_spec (k : Int) u (.slice none 0 0) zs [] (0, 0) hkk hPz.finL finL_nil hzl.1 (Nat.zero_le _) ⟨.inr rfl, .inr ⟨hk1, rfl⟩⟩
              have hst : Tst t (k : Int) zs [] (0, 0) := ⟨hPz, fun h => absurd h hk2, fun _ => rfl, fun h => absurd h hk1, fun _ => rfl⟩
              refine l_callH rfl zEvs rfl hI (lentBB (loanCx (.tail _ (.tail _ (.head _)))) (loanCx (.head _))) ?_
              by_cases hOk : IsPol zs ∧ (k2 (k : Int) → IsPol [])
              · rw [decide_eq_true hOk]
                have hT := ttext_spec (k : Int) u (.slice none 0 0) zs [] (0, 0) hkk hPz.finN finN_nil ⟨⟨by omega, 0, fv_zero⟩, ⟨by omega, 0, fv_zero⟩⟩ hzl ⟨Nat.zero_le _, fun e => absurd e hk2⟩
                obtain ⟨T, hTT⟩ : ∃ T, T = ttext (k : Int) zs [] (0, 0) := ⟨_, rfl⟩
                rw [← hTT] at hT
                all_goals ((try refine zR2 ?_) <;> (repeat' (with_reducible first | refine And.intro ?_ ?_ | intro _)))
                refine l_callH rfl zEvs rfl hT (lentBBFF (loanCx (.tail _ (.tail _ (.head _)))) (loanCx (.head _)) zMem zMem) ?_
                by_cases htx : T = t
                · all_goals ((try refine zR2 ?_) <;> (repeat' (with_reducible first | refine And.intro ?_ ?_ | intro _)))
                  all_goals first | (exfalso; contradiction) | skip
                  exact e_resT rfl zRes (Lo := [.row u 24 1 zs.length (zs.map cx), .row (.slice none 0 0) 24 1 0 []]) zTake fsub_nil ⟨k, u, .slice none 0 0, zs, [], (0, 0), 0, rfl, rfl, rfl, .inl ⟨rfl, tst_yes hkk hst hOk.2 (by rw [← hTT]; exact htx)⟩⟩
                · all_goals ((try refine zR2 ?_) <;> (repeat' (with_reducible first | refine And.intro ?_ ?_ | intro _)))
                  all_goals first | (exfalso; contradiction) | skip
                  refine ends_take (L' := [.row u 24 1 zs.length (zs.map cx), .row v4 9 1 ws.length (ws.map str), .box b2 [.int .i64 0, .slice none 0 0, .slice none 0 0, .complex .f64 0 0] 71]) zTake ?_
                  refine e_again ⟨k + 1, by omega, hnx fun zs' ys' z' hP => ?_⟩ (by dsimp only; omega) zSub rfl zFsub
                  obtain ⟨_, _, _, _, _, h7⟩ := tst_no hP hst
                  exact htx (hTT.trans h7)
              · rw [decide_eq_false hOk]
                all_goals ((try refine zR2 ?_) <;> (repeat' (with_reducible first | refine And.intro ?_ ?_ | intro _)))
                refine ends_take (L' := [.row u 24 1 zs.length (zs.map cx), .row v4 9 1 ws.length (ws.map str), .box b2 [.int .i64 0, .slice none 0 0, .slice none 0 0, .complex .f64 0 0] 71]) zTake ?_
                refine e_again ⟨k + 1, by omega, hnx fun zs' ys' z' hP => ?_⟩ (by dsimp only; omega) zSub rfl zFsub
                obtain ⟨_, _, _, h5, h6, _⟩ := tst_no hP hst
                exact hOk ⟨h5, h6⟩
        · all_goals (((try refine zR2 ?_) <;> (repeat' (with_reducible first | refine And.intro ?_ ?_ | intro _))) <;> (repeat' ((first | ((with_reducible apply l_callP); exact rfl; exact zEvs; exact rfl; (with_reducible apply hW); (case hF => exact zFsub); (try any_goals (refine propId ?_; omega)))) <;> ((try refine zR2 ?_) <;> (repeat' (with_reducible first | refine And.intro ?_ ?_ | intro _))))))
          all_goals (first | (exfalso; omega) | skip)
          · refine ends_take (L' := [.row u 24 1 zs.length (zs.map cx), .row v4 9 1 ws.length (ws.map str), .box b2 [.int .i64 0, .slice none 0 0, .slice none 0 0, .complex .f64 0 0] 71]) zTake ?_
            exact e_again ⟨k + 1, by omega, hnx fun zs ys z hP => hn hP.first.1.symm⟩ (by dsimp only; omega) zSub rfl zFsub
          · exact absurd (Decidable.of_not_not (by assumption)) hn
      · all_goals ((try refine zR2 ?_) <;> (repeat' (with_reducible first | refine And.intro ?_ ?_ | intro _)))
        all_goals (first | (exfalso; omega) | skip)
        refine ends_take (L' := [.box b2 [.int .i64 0, .slice none 0 0, .slice none 0 0, .complex .f64 0 0] 71]) zTake ?_
        refine e_out ⟨(), fun k' zs ys z hP => ?_⟩ zSub rfl zFsub
        have hb := hP.1
        refine hno k'.toNat zs ys z (by omega) ?_
        rw [Int.toNat_of_nonneg hb.1]
        exact hP
    · rintro ⟨_, hno⟩
      all_goals ((try refine zR2 ?_) <;> (repeat' (with_reducible first | refine And.intro ?_ ?_ | intro _)))
      refine ends_nilRow (E := 24) 1 ?_
      refine ends_nilRow (E := 24) 1 ?_
      exact e_resT rfl zRes (Lo := [.row (.slice none 0 0) 24 1 0 [], .row (.slice none 0 0) 24 1 0 []]) zTake fsub_nil ⟨0, .slice none 0 0, .slice none 0 0, [], [], (0, 0), 6, rfl, rfl, rfl, .inr ⟨rfl, ⟨rfl, rfl, rfl, rfl⟩, hno⟩⟩
  · all_goals ((try refine zR2 ?_) <;> (repeat' (with_reducible first | refine And.intro ?_ ?_ | intro _)))
    refine ends_nilRow (E := 24) 1 ?_
    refine ends_nilRow (E := 24) 1 ?_
    exact e_resT rfl zRes (Lo := [.row (.slice none 0 0) 24 1 0 [], .row (.slice none 0 0) 24 1 0 []]) zTake fsub_nil ⟨0, .slice none 0 0, .slice none 0 0, [], [], (0, 0), 6, rfl, rfl, rfl, .inr ⟨rfl, ⟨rfl, rfl, rfl, rfl⟩, none_first hno⟩⟩
end Go.Proofs.YtbllgmcpebifhaaGreatDoor.K
end

section
/- Marks from any number on; the laws' questions about tasks. -/
namespace Go.Proofs.YtbllgmcpebifhaaGreatDoor.K
open Go Go.RowKit Go.Lib
set_option linter.all false
set_option maxRecDepth 4000
set_option maxHeartbeats 1000000
set_option exponentiation.threshold 4000

/-- The marks. -/
def mqz (K : Nat) (i : Nat) : Nat × Nat := (floatOfInt .f64 ((K : Int) + (i : Int)), 4607182418800017408)
def mqx (K : Nat) (n : Nat) : List (Nat × Nat) := (List.range n).map (mqz K)
theorem mqx_len (K n : Nat) : (mqx K n).length = n := by simp [mqx]
theorem mqx_succ (K n : Nat) : mqx K (n + 1) = mqx K n ++ [mqz K n] := by simp [mqx, List.range_succ]
theorem mqx_get {K n i : Nat} (h : i < n) : (mqx K n)[i]? = some (floatOfInt .f64 ((K : Int) + (i : Int)), 4607182418800017408) := by
  simp [mqx, List.getElem?_range h, mqz]
theorem markQ_spec (K : Nat) (hK : K ≤ 1000000) (v : Value) (l : List (Nat × Nat)) (hl : l.length ≤ 1000000) : Spec Tryz.prog 47 [v, .int .i64 (K : Int)] [.row v 24 1 l.length (l.map cx)] []
    (PVal (.int .i64 ((K : Int) + (l.length : Int))) [.row v 24 1 l.length ((mqx K l.length).map cx)]) := by
  refine enter Tryz.func47 Tryz.ntmps47 rfl (by kernel_rfl) zCon rfl fun G => ?_
  refine c_isRow (.own (.head _)) fun hs _ => ?_
  all_goals ((try refine zR2 ?_) <;> (repeat' (with_reducible first | refine And.intro ?_ ?_ | intro _)))
  refine c_while (ι := { i : Nat // i ≤ l.length }) (κ := Unit)
    (fun i => [(5, .int .i64 (i.1 : Int)), (1, .int .i64 ((K : Int) + (i.1 : Int))), (0, v)]) (fun i => [.row v 24 1 l.length ((mqx K i.1 ++ l.drop i.1).map cx)]) (fun _ => []) (fun i => l.length - i.1)
    (fun _ => [(1, .int .i64 ((K : Int) + (l.length : Int))), (0, v)]) (fun _ => [.row v 24 1 l.length ((mqx K l.length).map cx)]) (fun _ => []) ⟨0, Nat.zero_le _⟩ (fun a w s => s.start zSub (by simp [mqx]) zFsub) ?_ ?_
  · rintro ⟨i, hi⟩
    dsimp only
    by_cases hil : i < l.length
    · have hdrop : l.drop i = l[i] :: l.drop (i + 1) := List.drop_eq_getElem_cons hil
      have hml := mqx_len K i
      rw [hdrop]
      clear hdrop
      generalize l[i] = y
      have hlenA : (mqx K i ++ y :: l.drop (i + 1)).length = l.length := by simp [hml]; omega
      have hset := cx_set (mqx K i) y (mqz K i) (l.drop (i + 1))
      rw [hml] at hset
      all_goals ((try refine zR2 ?_) <;> (repeat' (with_reducible first | refine And.intro ?_ ?_ | intro _)))
      all_goals (first | (exfalso; omega) | skip)
      refine l_storeMap (f := cx) (b := mqz K i) rfl rfl .head rfl .complex rfl (by rw [hlenA]; exact hil) ?_
      rw [hset]
      all_goals ((try refine zR2 ?_) <;> (repeat' (with_reducible first | refine And.intro ?_ ?_ | intro _)))
      refine e_again ⟨i + 1, hil⟩ (by dsimp only; omega) zSub ?_ (fun _ h => h)
      dsimp only
      rw [mqx_succ]
      simp
    · all_goals ((try refine zR2 ?_) <;> (repeat' (with_reducible first | refine And.intro ?_ ?_ | intro _)))
      all_goals (first | (exfalso; omega) | skip)
      have : i = l.length := by omega
      subst this
      exact e_out () zSub (by simp) (fun _ h => h)
  · intro _
    all_goals ((try refine zR2 ?_) <;> (repeat' (with_reducible first | refine And.intro ?_ ?_ | intro _)))
    exact e_resT rfl zRes (.cons .head .nil) fsub_nil ⟨rfl, rfl, rfl⟩
theorem heldQ_spec (K : Nat) (hK : K ≤ 1000000) (v : Value) (n : Nat) (hn : n ≤ 1000000) : Spec Tryz.prog 48 [v, .int .i64 (K : Int)] [] [fList 1 rCx v (mqx K n)]
    (Gives (.int .i64 ((K : Int) + (n : Int)))) := by
  refine enter Tryz.func48 Tryz.ntmps48 rfl (by kernel_rfl) zCon rfl fun G => ?_
  refine c_isList (v := v) zMem fun hs1 => ?_
  have hml := mqx_len K n
  have hone := fv_one
  all_goals ((try refine zR2 ?_) <;> (repeat' (with_reducible first | refine And.intro ?_ ?_ | intro _)))
  refine c_while (ι := { i : Nat // i ≤ n }) (κ := Unit)
    (fun i => [(5, .int .i64 (i.1 : Int)), (1, .int .i64 ((K : Int) + (i.1 : Int))), (0, v)]) (fun _ => []) (fun _ => [fList 1 rCx v (mqx K n)]) (fun i => n - i.1)
    (fun _ => [(1, .int .i64 ((K : Int) + (n : Int))), (0, v)]) (fun _ => []) (fun _ => []) ⟨0, Nat.zero_le _⟩ (fun _ _ s => s.start zSub zRfl zFsub) ?_ ?_
  · rintro ⟨i, hi⟩
    dsimp only at hi ⊢
    by_cases hil : i < n
    · have hget := mqx_get (K := K) hil
      have hfv : fv (floatOfInt .f64 ((K : Int) + (i : Int))) = some (((K + i : Nat) : Int) * (2 ^ 1074 : Nat)) := by
        have := ofInt_small (K + i) (by omega)
        rwa [Int.natCast_add] at this
      generalize ((K + i : Nat) : Int) * (2 ^ 1074 : Nat) = A at hfv
      generalize ((2 ^ 1074 : Nat) : Int) = B at hone
      all_goals ((try refine zR2 ?_) <;> (repeat' (with_reducible first | refine And.intro ?_ ?_ | intro _)))
      all_goals (first | (exfalso; omega) | skip)
      exact e_again ⟨i + 1, hil⟩ (by dsimp only; omega) zSub rfl (fun _ h => h)
    · all_goals ((try refine zR2 ?_) <;> (repeat' (with_reducible first | refine And.intro ?_ ?_ | intro _)))
      all_goals (first | (exfalso; omega) | skip)
      have : i = n := by omega
      subst this
      exact e_out () zSub rfl zFsub
  · intro _
    all_goals ((try refine zR2 ?_) <;> (repeat' (with_reducible first | refine And.intro ?_ ?_ | intro _)))
    (refine e_gives rfl zRes ?_; first | rfl | (simp [retVal, *]; done) | (simp_all [retVal]; done) | (simp only [retVal]))
theorem eqTask_spec (k : Int) (v1 v2 u1 u2 : Value) (zs ys : List (Nat × Nat)) (z : Nat × Nat) (hz : FinX zs) (hy : FinX ys) (hzl : zs.length ≤ 100) (hyl : ys.length ≤ 100) (hx : ∃ a, FinZ z a ∧ (a.1 = 0 → z.1 = 0) ∧ (a.2 = 0 → z.2 = 0)) :
    Spec Tryz.prog 51 [vTask k v1 v2 z, vTask k u1 u2 z] [] [fList 1 rCx v1 zs, fList 1 rCx u1 zs, fList 1 rCx v2 ys, fList 1 rCx u2 ys] (Gives (.bool true)) := by
  refine enter Tryz.func51 Tryz.ntmps51 rfl (by kernel_rfl) zCon rfl fun G => ?_
  obtain ⟨a, ha, ha1, ha2⟩ := hx
  refine c_isList (v := v1) zMem fun hs1 => ?_
  refine c_isList (v := u1) zMem fun hs2 => ?_
  refine c_isList (v := v2) zMem fun hs3 => ?_
  refine c_isList (v := u2) zMem fun hs4 => ?_
  have e1 := eqCx_spec v1 u1 zs hz hzl
  have e2 := eqCx_spec v2 u2 ys hy hyl
  have e3 := sameComplex_spec z a ha ha1 ha2
  all_goals (((try refine zR2 ?_) <;> (repeat' (with_reducible first | refine And.intro ?_ ?_ | intro _))) <;> (repeat' ((first | ((with_reducible apply l_callP); exact rfl; exact zEvs; exact rfl; (with_reducible apply e1); (case hF => exact zFsub); (try any_goals (refine propId ?_; omega))) | ((with_reducible apply l_callP); exact rfl; exact zEvs; exact rfl; (with_reducible apply e2); (case hF => exact zFsub); (try any_goals (refine propId ?_; omega))) | ((with_reducible apply l_callP); exact rfl; exact zEvs; exact rfl; (with_reducible apply e3); (case hF => exact zFsub); (try any_goals (refine propId ?_; omega)))) <;> ((try refine zR2 ?_) <;> (repeat' (with_reducible first | refine And.intro ?_ ?_ | intro _))))))
  all_goals first | (exfalso; contradiction) | skip
  (refine e_gives rfl zRes ?_; first | rfl | (simp [retVal, *]; done) | (simp_all [retVal]; done) | (simp only [retVal]))
theorem markTask_spec (k : Int) (v1 v2 : Value) (zs ys : List (Nat × Nat)) (z : Nat × Nat) (hzl : zs.length ≤ 100) (hyl : ys.length ≤ 100) :
    Spec Tryz.prog 52 [vTask k v1 v2 z, .int .i64 1] [.row v1 24 1 zs.length (zs.map cx), .row v2 24 1 ys.length (ys.map cx)] [] (PVal (.int .i64 (((1 + zs.length : Nat) : Int) + (ys.length : Int))) [.row v1 24 1 zs.length ((mqx 1 zs.length).map cx), .row v2 24 1 ys.length ((mqx (1 + zs.length) ys.length).map cx)]) := by
  refine enter Tryz.func52 Tryz.ntmps52 rfl (by kernel_rfl) zCon rfl fun G => ?_
  refine c_isRow (.own (.head _)) fun hs1 _ => ?_
  refine c_isRow (.own (.tail _ (.head _))) fun hs2 _ => ?_
  all_goals ((try refine zR2 ?_) <;> (repeat' (with_reducible first | refine And.intro ?_ ?_ | intro _)))
  refine l_call rfl zEvs rfl (markQ_spec 1 (by omega) v1 zs (by omega)) zTake zFsub ?_
  rintro _ L' F' ⟨rfl, rfl, rfl⟩
  rw [show ((1 : Nat) : Int) + (zs.length : Int) = ((1 + zs.length : Nat) : Int) by omega]
  all_goals ((try refine zR2 ?_) <;> (repeat' (with_reducible first | refine And.intro ?_ ?_ | intro _)))
  refine l_call rfl zEvs rfl (markQ_spec (1 + zs.length) (by omega) v2 ys (by omega)) zTake zFsub ?_
  rintro _ L' F' ⟨rfl, rfl, rfl⟩
  all_goals ((try refine zR2 ?_) <;> (repeat' (with_reducible first | refine And.intro ?_ ?_ | intro _)))
  exact e_resT rfl zRes (Lo := [.row v1 24 1 zs.length ((mqx 1 zs.length).map cx), .row v2 24 1 ys.length ((mqx (1 + zs.length) ys.length).map cx)]) zTake fsub_nil ⟨rfl, rfl, rfl⟩
theorem heldTask_spec (k : Int) (v1 v2 : Value) (n1 n2 : Nat) (z : Nat × Nat) (h1 : n1 ≤ 100) (h2 : n2 ≤ 100) :
    Spec Tryz.prog 53 [vTask k v1 v2 z, .int .i64 1] [] [fList 1 rCx v1 (mqx 1 n1), fList 1 rCx v2 (mqx (1 + n1) n2)] (Gives (.int .i64 (((1 + n1 : Nat) : Int) + (n2 : Int)))) := by
  refine enter Tryz.func53 Tryz.ntmps53 rfl (by kernel_rfl) zCon rfl fun G => ?_
  refine c_isList (v := v1) zMem fun hs1 => ?_
  refine c_isList (v := v2) zMem fun hs2 => ?_
  all_goals ((try refine zR2 ?_) <;> (repeat' (with_reducible first | refine And.intro ?_ ?_ | intro _)))
  refine l_callP rfl zEvs rfl (heldQ_spec 1 (by omega) v1 n1 (by omega)) zFsub ?_
  rw [show ((1 : Nat) : Int) + (n1 : Int) = ((1 + n1 : Nat) : Int) by omega]
  all_goals ((try refine zR2 ?_) <;> (repeat' (with_reducible first | refine And.intro ?_ ?_ | intro _)))
  all_goals first | (exfalso; omega) | skip
  refine l_callP rfl zEvs rfl (heldQ_spec (1 + n1) (by omega) v2 n2 (by omega)) zFsub ?_
  all_goals ((try refine zR2 ?_) <;> (repeat' (with_reducible first | refine And.intro ?_ ?_ | intro _)))
  all_goals first | (exfalso; omega) | skip
  (refine e_gives rfl zRes ?_; first | rfl | (simp [retVal, *]; done) | (simp_all [retVal]; done) | (simp only [retVal]))
end Go.Proofs.YtbllgmcpebifhaaGreatDoor.K
end
