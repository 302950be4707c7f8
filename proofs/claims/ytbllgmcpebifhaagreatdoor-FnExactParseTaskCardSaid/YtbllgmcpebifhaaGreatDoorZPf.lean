/- Plain laws: the text of a task. -/
import Derived.Test.YtbllgmcpebifhaaGreatDoorZPe

section
namespace Go.Proofs.YtbllgmcpebifhaaGreatDoor.K
open Go Go.RowKit Go.Lib
set_option linter.all false

/-- The task of a text. -/
def PTask (t : List UInt8) (k : Int) (zs ys : List (Nat × Nat)) (z : Nat × Nat) : Prop := (0 ≤ k ∧ k ≤ 5) ∧ ∃ w, PPol w zs ∧
  (((tw k).2 = [] ∧ spl 32 t = [(tw k).1, w] ∧ ys = [] ∧ z = (0, 0)) ∨
   ∃ u, (tw k).2 ≠ [] ∧ spl 32 t = [(tw k).1, w, (tw k).2, u] ∧ ((k = 1 ∧ ys = [] ∧ DblZ u z) ∨ (k ≠ 1 ∧ PPol u ys ∧ z = (0, 0))))
theorem k_cases {k : Int} (h : 0 ≤ k ∧ k ≤ 5) : k = 0 ∨ k = 1 ∨ k = 2 ∨ k = 3 ∨ k = 4 ∨ k = 5 := by omega
theorem tw_inj {k l : Int} (hk : 0 ≤ k ∧ k ≤ 5) (hl : 0 ≤ l ∧ l ≤ 5) (h : (tw k).1 = (tw l).1) : k = l := by
  rcases k_cases hk with rfl | rfl | rfl | rfl | rfl | rfl <;> rcases k_cases hl with rfl | rfl | rfl | rfl | rfl | rfl <;> first | rfl | (exact absurd h (by decide))
theorem tw_two {k : Int} (hk : 0 ≤ k ∧ k ≤ 5) : ((tw k).2 ≠ [] ↔ k = 1 ∨ k2 k) ∧ (32 : UInt8) ∉ (tw k).1 ∧ (32 : UInt8) ∉ (tw k).2 ∧ (k2 k → k ≠ 1) := by
  rcases k_cases hk with rfl | rfl | rfl | rfl | rfl | rfl <;> exact ⟨by decide, by decide, by decide, by decide⟩
theorem PTask.uniq {t : List UInt8} {k l : Int} {zs ys zs' ys' : List (Nat × Nat)} {z z' : Nat × Nat} (h : PTask t k zs ys z) (h' : PTask t l zs' ys' z') : k = l ∧ zs = zs' ∧ ys = ys' ∧ z = z' := by
  obtain ⟨hk, w, hw, h⟩ := h
  obtain ⟨hl, w', hw', h'⟩ := h'
  have hhead : (tw k).1 = (tw l).1 := by
    rcases h with ⟨_, h, _⟩ | ⟨u, _, h, _⟩ <;> rcases h' with ⟨_, h', _⟩ | ⟨u', _, h', _⟩ <;> (rw [h] at h'; injection h')
  obtain rfl := tw_inj hk hl hhead
  rcases h with ⟨e1, h, rfl, rfl⟩ | ⟨u, e1, h, h3⟩
  · rcases h' with ⟨_, h', rfl, rfl⟩ | ⟨u', e2, _⟩
    · rw [h] at h'
      injection h' with _ h'
      injection h' with h' _
      subst h'
      exact ⟨rfl, hw.uniq hw', rfl, rfl⟩
    · exact absurd e1 e2
  · rcases h' with ⟨e2, _⟩ | ⟨u', _, h', h3'⟩
    · exact absurd e2 e1
    · rw [h] at h'
      injection h' with _ h'
      injection h' with h4 h'
      injection h' with _ h'
      injection h' with h5 _
      subst h4; subst h5
      refine ⟨rfl, hw.uniq hw', ?_⟩
      rcases h3 with ⟨rfl, rfl, h6⟩ | ⟨h7, h6, rfl⟩
      · rcases h3' with ⟨_, rfl, h6'⟩ | ⟨h7', _⟩
        · exact ⟨rfl, h6.uniq h6'⟩
        · exact absurd rfl h7'
      · rcases h3' with ⟨h7', _⟩ | ⟨_, h6', rfl⟩
        · exact absurd h7' h7
        · exact ⟨h6.uniq h6', rfl⟩
/-- The words of a text, with three blanks behind. -/
def pget (t : List UInt8) (i : Nat) : List UInt8 := (spl 32 t ++ [[], [], []]).getD i []
theorem pget_no {t : List UInt8} (i : Nat) : (32 : UInt8) ∉ pget t i := by
  unfold pget
  rw [List.getD_eq_getElem?_getD]
  rcases h : (spl 32 t ++ [[], [], []])[i]? with _ | w
  · simp
  · have hm := List.mem_of_getElem? h
    rcases List.mem_append.1 hm with hm | hm
    · exact (spl_mem 32 t w hm).2
    · simp at hm
      subst hm
      simp
theorem pget_of {t a b : List UInt8} {r : List (List UInt8)} (h : spl 32 t = a :: b :: r) : pget t 0 = a ∧ pget t 1 = b := by
  unfold pget
  rw [h]
  exact ⟨rfl, rfl⟩
theorem pget_three {t a b c d : List UInt8} (h : spl 32 t = [a, b, c, d]) : pget t 3 = d := by
  unfold pget
  rw [h]
  rfl
theorem PTask.first {t : List UInt8} {k : Int} {zs ys : List (Nat × Nat)} {z : Nat × Nat} (h : PTask t k zs ys z) : pget t 0 = (tw k).1 ∧ PPol (pget t 1) zs := by
  obtain ⟨hk, w, hw, ⟨_, h, _⟩ | ⟨u, _, h, _⟩⟩ := h
  · obtain ⟨h1, h2⟩ := pget_of h
    exact ⟨h1, by rw [h2]; exact hw⟩
  · obtain ⟨h1, h2⟩ := pget_of h
    exact ⟨h1, by rw [h2]; exact hw⟩
/-- What the program has read for a kind. -/
def Tst (t : List UInt8) (k : Int) (zs ys : List (Nat × Nat)) (z : Nat × Nat) : Prop := PPol (pget t 1) zs ∧ (k2 k → PPol (pget t 3) ys ∨ (ys = [] ∧ ∀ y, ¬ PPol (pget t 3) y)) ∧ (¬ k2 k → ys = []) ∧
  (k = 1 → (Fin64 z.1 ∧ Fin64 z.2) ∧ (DblZ (pget t 3) z ∨ ∀ y, ¬ DblZ (pget t 3) y)) ∧ (k ≠ 1 → z = (0, 0))
theorem DblZ.no32 {w : List UInt8} {z : Nat × Nat} (h : DblZ w z) : (32 : UInt8) ∉ w := by
  obtain ⟨a, b, rfl, h1, h2⟩ := h
  intro hm
  rcases List.mem_append.1 hm with hm | hm
  · exact h1.chars (.inr (.inr rfl)) hm
  · cases hm with
    | tail _ hm => exact h2.chars (.inr (.inr rfl)) hm
theorem tst_yes {t : List UInt8} {k : Int} {zs ys : List (Nat × Nat)} {z : Nat × Nat} (hk : 0 ≤ k ∧ k ≤ 5) (h : Tst t k zs ys z) (hp : k2 k → IsPol ys) (ht : ttext k zs ys z = t) : PTask t k zs ys z := by
  obtain ⟨h1, h2, h3, h4, h5⟩ := h
  obtain ⟨t1, t2, t3, t4⟩ := tw_two hk
  refine ⟨hk, pget t 1, h1, ?_⟩
  have hJ := h1.text
  have h32 := pget_no (t := t) 1
  unfold ttext at ht
  rw [hJ] at ht
  dsimp only at ht
  by_cases hw : (tw k).2 = []
  · left
    rw [if_pos hw] at ht
    have hk1 : k ≠ 1 := fun e => (t1.2 (.inl e)) hw
    have hk2 : ¬ k2 k := fun e => (t1.2 (.inr e)) hw
    refine ⟨hw, ?_, h3 hk2, h5 hk1⟩
    have := spl_joinW 32 [(tw k).1, pget t 1] (by simp) (fun w hw' => by
      rcases List.mem_cons.1 hw' with rfl | hw'
      · exact t2
      · rw [List.mem_singleton.1 hw']; exact h32)
    rw [← this]
    congr 1
    conv => lhs; rw [← ht]
    simp [joinW]
  · right
    rw [if_neg hw] at ht
    have key : ∀ u, (32 : UInt8) ∉ u → joinW 59 ((if k = 1 then [z] else ys).map numt) = u → spl 32 t = [(tw k).1, pget t 1, (tw k).2, u] := fun u hu e => by
      rw [e] at ht
      have := spl_joinW 32 [(tw k).1, pget t 1, (tw k).2, u] (by simp) (fun w hw' => by
        simp at hw'
        rcases hw' with rfl | rfl | rfl | rfl
        · exact t2
        · exact h32
        · exact t3
        · exact hu)
      rw [← this]
      congr 1
      conv => lhs; rw [← ht]
      simp [joinW]
    by_cases hk1 : k = 1
    · obtain ⟨⟨⟨z64, A, hA⟩, ⟨y64, B, hB⟩⟩, h4⟩ := h4 hk1
      obtain ⟨y, hy⟩ := numt_dblz ⟨z64, y64⟩ hA hB
      have hs := key (numt z) hy.no32 (by rw [if_pos hk1]; rfl)
      have hp3 := pget_three hs
      refine ⟨numt z, hw, hs, .inl ⟨hk1, h3 (fun e => t4 e hk1), ?_⟩⟩
      rw [hp3] at h4
      exact h4.resolve_right fun hn => hn y hy
    · have hk2 : k2 k := (t1.1 hw).resolve_left hk1
      have hP : PPol (pget t 3) ys := (h2 hk2).resolve_right fun ⟨e, _⟩ => by
        subst e
        have := (hp hk2).1
        simp at this
      have hs := key (pget t 3) (pget_no 3) (by rw [if_neg hk1]; exact hP.text)
      exact ⟨pget t 3, hw, hs, .inr ⟨hk1, hP, h5 hk1⟩⟩
theorem tst_no {t : List UInt8} {k : Int} {zs ys zs' ys' : List (Nat × Nat)} {z z' : Nat × Nat} (h' : PTask t k zs' ys' z') (h : Tst t k zs ys z) : zs' = zs ∧ ys' = ys ∧ z' = z ∧ IsPol zs ∧ (k2 k → IsPol ys) ∧ ttext k zs ys z = t := by
  have hf := h'.first
  obtain ⟨h1, h2, h3, h4, h5⟩ := h
  obtain ⟨hk, w, hw, hr⟩ := h'
  obtain ⟨t1, t2, t3, t4⟩ := tw_two hk
  obtain rfl := hf.2.uniq h1
  have hJ := h1.text
  have hjt := joinW_spl 32 t
  refine ⟨rfl, ?_⟩
  unfold ttext
  rw [hJ]
  dsimp only
  rcases hr with ⟨e1, hs, rfl, rfl⟩ | ⟨u, e1, hs, hr⟩
  · have hk1 : k ≠ 1 := fun e => (t1.2 (.inl e)) e1
    have hk2 : ¬ k2 k := fun e => (t1.2 (.inr e)) e1
    obtain rfl := h3 hk2
    obtain rfl := h5 hk1
    refine ⟨rfl, rfl, h1.2.2, fun e => absurd e hk2, ?_⟩
    rw [if_pos e1, (pget_of hs).2]
    rw [hs] at hjt
    rw [← hjt]
    simp [joinW]
  · have hp3 := pget_three hs
    rw [hs] at hjt
    rcases hr with ⟨hk1, rfl, hz⟩ | ⟨hk1, hP, rfl⟩
    · obtain rfl := h3 (fun e => t4 e hk1)
      obtain ⟨_, h4⟩ := h4 hk1
      rw [hp3] at h4
      have hz2 : DblZ u z := h4.resolve_right fun hn => hn _ hz
      obtain rfl := hz.uniq hz2
      refine ⟨rfl, rfl, h1.2.2, fun e => absurd hk1 (t4 e), ?_⟩
      rw [if_neg e1, if_pos hk1, (pget_of hs).2, ← hjt]
      simp [joinW, hz2.numt]
    · have hk2 : k2 k := (t1.1 e1).resolve_left hk1
      obtain rfl := h5 hk1
      have hP2 : PPol (pget t 3) ys := (h2 hk2).resolve_right fun ⟨_, hn⟩ => hn _ (by rw [hp3]; exact hP)
      rw [hp3] at hP2
      obtain rfl := hP.uniq hP2
      refine ⟨rfl, rfl, h1.2.2, fun _ => hP.2.2, ?_⟩
      rw [if_neg e1, if_neg hk1, hP.text, (pget_of hs).2, ← hjt]
      simp [joinW]
end Go.Proofs.YtbllgmcpebifhaaGreatDoor.K
end

section
/- The reference's reading of tasks. -/
namespace Go.Proofs.YtbllgmcpebifhaaGreatDoor.K
open Go Go.RowKit Go.Lib
set_option linter.all false
set_option maxRecDepth 4000
set_option maxHeartbeats 1000000

theorem c_nilCx {G : Ctx} {n : Nat} {P : Program} {Q : Post} {m : Regs} {L : List Own} {F : List Fact} {c : Code} (h : RunC G n P c Q m L (fList 1 rCx (.slice none 0 0) [] :: F)) : RunC G n P c Q m L F := fun a w st => h a w st.nilList
theorem none_of {t w a : List UInt8} {r : List (List UInt8)} (hs : spl 32 t = a :: w :: r) (h : ∀ ys, ¬ PPol w ys) : ∀ k zs ys z, ¬ PTask t k zs ys z := fun k zs ys z hP => by
  have h1 := hP.first.2
  rw [(pget_of hs).2] at h1
  exact h _ h1
theorem none_u {t w u : List UInt8} {k : Int} (hkk : 0 ≤ k ∧ k ≤ 5) (e1 : (tw k).2 ≠ []) (hs : spl 32 t = [(tw k).1, w, (tw k).2, u]) (h1 : k = 1 → ∀ y, ¬ DblZ u y) (h2 : k ≠ 1 → ∀ ys, ¬ PPol u ys) : ∀ k zs ys z, ¬ PTask t k zs ys z := fun l zs ys z hP => by
  have h3 := hP.first.1
  rw [(pget_of hs).1] at h3
  obtain ⟨hl, w', _, hr⟩ := hP
  obtain rfl := tw_inj hkk hl h3
  rcases hr with ⟨e2, _⟩ | ⟨u', _, hs', hr⟩
  · exact e1 e2
  · rw [hs] at hs'
    injection hs' with _ hs'
    injection hs' with _ hs'
    injection hs' with _ hs'
    injection hs' with hs' _
    subst hs'
    rcases hr with ⟨e3, _, h4⟩ | ⟨e3, h4, _⟩
    · exact h1 e3 _ h4
    · exact h2 e3 _ h4
theorem finL_nil : FinL [] := fun z hz => by cases hz
/-- What l11Read hands back. -/
def PTkR (t : List UInt8) (r : Value) (L' : List Own) (F' : List Fact) : Prop := ∃ k v1 v2 zs ys z b, r = .tuple #[vTask k v1 v2 z, .bool b] ∧ L' = [] ∧ F' = [fList 1 rCx v1 zs, fList 1 rCx v2 ys] ∧
  ((b = true ∧ PTask t k zs ys z) ∨ (b = false ∧ ∀ k zs ys z, ¬ PTask t k zs ys z))
theorem fit_two {ws : List (List UInt8)} {a : List UInt8} (h : ws.length = 2) (h0 : 0 < ws.length) (e : ws[0] = a) : ∃ w, ws = [a, w] := by
  match ws, h with
  | [x, y], _ => exact ⟨y, by rw [show x = a from e]⟩
theorem fit_four {ws : List (List UInt8)} {a c : List UInt8} (h : ws.length = 4) (h0 : 0 < ws.length) (h2 : 2 < ws.length) (e : ws[0] = a) (e2 : ws[2] = c) : ∃ w u, ws = [a, w, c, u] := by
  match ws, h with
  | [x, y, z, u], _ => exact ⟨y, u, by rw [show x = a from e, show z = c from e2]⟩
theorem l11Read_spec (t : List UInt8) (hl : t.length ≤ 2000000) : Spec Tryz.prog 130 [.string ⟨t.toArray⟩] [] [] (PTkR t) := by
  refine enter Tryz.func130 Tryz.ntmps130 rfl (by kernel_rfl) zCon rfl fun G => ?_
  all_goals ((try refine zR2 ?_) <;> (repeat' (with_reducible first | refine And.intro ?_ ?_ | intro _)))
  rename_i b2
  refine l_call rfl zEvs rfl (l04Split_spec 32 t hl) zTake zFsub ?_
  rintro v L' F' ⟨rfl, rfl⟩
  refine l_isRow (v := v) (.own (.head _)) fun hsv _ => ?_
  have hwl := spl_len 32 t
  have hwm := spl_mem 32 t
  have hwn := spl_ne 32 t
  obtain ⟨ws, hws⟩ : ∃ ws, ws = spl 32 t := ⟨_, rfl⟩
  rw [← hws] at hwl hwm hwn ⊢
  have hw0 : 0 < ws.length := List.length_pos_iff.2 hwn
  all_goals ((try refine zR2 ?_) <;> (repeat' (with_reducible first | refine And.intro ?_ ?_ | intro _)))
  refine c_while (ι := { k : Nat // k ≤ 6 ∧ ∀ (j : Nat) zs ys z, j < k → ¬ PTask t (j : Int) zs ys z }) (κ := { _u : Unit // ∀ k zs ys z, ¬ PTask t k zs ys z })
    (fun k => [(4, v), (5, .int .i64 (k.1 : Int)), (2, ptr b2)]) (fun _ => [.row v 9 1 ws.length (ws.map str), .box b2 [.int .i64 0, .slice none 0 0, .slice none 0 0, .complex .f64 0 0] 71]) (fun _ => []) (fun k => 6 - k.1)
    (fun _ => [(2, ptr b2)]) (fun _ => [.box b2 [.int .i64 0, .slice none 0 0, .slice none 0 0, .complex .f64 0 0] 71]) (fun _ => []) ⟨0, Nat.zero_le _, fun j _ _ _ h => absurd h (Nat.not_lt_zero _)⟩ (fun _ _ s => s.start zSub zRfl zFsub) ?_ ?_
  · rintro ⟨k, hk6, hno⟩
    dsimp only at hk6 hno ⊢
    by_cases hk : k ≤ 5
    · have hW := l11Words_spec (k : Int)
      have hkk : (0 : Int) ≤ (k : Int) ∧ (k : Int) ≤ 5 := by omega
      by_cases hfit : (∃ w, (tw (k : Int)).2 = [] ∧ ws = [(tw (k : Int)).1, w]) ∨ (∃ w u, (tw (k : Int)).2 ≠ [] ∧ ws = [(tw (k : Int)).1, w, (tw (k : Int)).2, u])
      · rcases hfit with ⟨w, e1, rfl⟩ | ⟨w, u, e1, rfl⟩
        · have hwlen : w.length ≤ 2000000 := by have := (hwm w (.tail _ (.head _))).1; omega
          have hk1 : ¬ (k : Int) = 1 := fun e => ((tw_two hkk).1.2 (.inl e)) e1
          have hk2 : ¬ k2 (k : Int) := fun e => ((tw_two hkk).1.2 (.inr e)) e1
          clear hwm hwl hwn
          have hg0 : [(tw (k : Int)).1, w][0]? = some (tw (k : Int)).1 := rfl
          have hg1 : [(tw (k : Int)).1, w][1]? = some w := rfl
          all_goals (((try refine zR2 ?_) <;> (repeat' (with_reducible first | refine And.intro ?_ ?_ | intro _))) <;> (repeat' ((first | ((with_reducible apply l_callP); exact rfl; exact zEvs; exact rfl; (with_reducible apply hW); (case hF => exact zFsub); (try any_goals (refine propId ?_; omega)))) <;> ((try refine zR2 ?_) <;> (repeat' (with_reducible first | refine And.intro ?_ ?_ | intro _))))))
          all_goals (first | (exfalso; omega) | skip)
          all_goals first | (exfalso; contradiction) | (exfalso; simp_all; done) | skip
          refine l_call rfl zEvs rfl (l04Read_spec w hwlen) zTake zFsub ?_
          rintro _ L' F' ⟨v1, b, zs, rfl, rfl, rfl, hb⟩
          refine l_isList (.head _) fun hsv1 => ?_
          rcases hb with ⟨rfl, h1, h2⟩ | ⟨rfl, rfl, kk, w', _, hkk', hw'⟩
          · all_goals ((try refine zR2 ?_) <;> (repeat' (with_reducible first | refine And.intro ?_ ?_ | intro _)))
            all_goals first | (exfalso; contradiction) | skip
            rename_i b11 _
            refine c_nilCx ?_
            have hI := l11Is_spec (k : Int) v1 (.slice none 0 0) zs [] (0, 0) hkk (h2.fin (by omega)) finL_nil ⟨.inr rfl, .inr ⟨hk1, rfl⟩⟩
            refine c_draw ([10], []) [.box b11 [.int .i64 (k : Int), v1, .slice none 0 0, .complex .f64 0 0] 71] [0, 1, 2, 3, 4, 5, 6, 7, 8, 9, 10] (by kernel_rfl) (by kernel_rfl) ?_
            all_goals (((try refine zD2 ?_) <;> (repeat' (with_reducible first | refine And.intro ?_ ?_ | intro _))) <;> (repeat' ((first | ((with_reducible apply l_callP); exact rfl; exact zEvs; exact rfl; (with_reducible apply hI); (case hF => exact zFsub); (try any_goals (refine propId ?_; omega)))) <;> ((try refine zD2 ?_) <;> (repeat' (with_reducible first | refine And.intro ?_ ?_ | intro _))))))
            by_cases hP : IsPol zs
            · exact e_resT rfl zRes .nil (fsub_cons zMem (fsub_cons zMem fsub_nil)) ⟨k, v1, .slice none 0 0, zs, [], (0, 0), decide (IsPol zs ∧ (k2 (k : Int) → IsPol [])), rfl, rfl, rfl, .inl ⟨decide_eq_true ⟨hP, fun e => absurd e hk2⟩, hkk, w, yes_pol h1 h2 hP, .inl ⟨e1, hws.symm, rfl, rfl⟩⟩⟩
            · exact e_resT rfl zRes .nil (fsub_cons zMem (fsub_cons zMem fsub_nil)) ⟨k, v1, .slice none 0 0, zs, [], (0, 0), decide (IsPol zs ∧ (k2 (k : Int) → IsPol [])), rfl, rfl, rfl, .inr ⟨decide_eq_false (fun e => hP e.1), none_of hws.symm (no_pol h1 h2 hP)⟩⟩
          · all_goals ((try refine zR2 ?_) <;> (repeat' (with_reducible first | refine And.intro ?_ ?_ | intro _)))
            all_goals first | (exfalso; contradiction) | skip
            rename_i b11 _
            refine c_nilCx ?_
            refine c_draw ([10], []) [.box b11 [.int .i64 (k : Int), v1, .slice none 0 0, .complex .f64 0 0] 71] [0, 1, 2, 3, 4, 5, 6, 7, 8, 9, 10] (by kernel_rfl) (by kernel_rfl) ?_
            all_goals ((try refine zD2 ?_) <;> (repeat' (with_reducible first | refine And.intro ?_ ?_ | intro _)))
            exact e_resT rfl zRes .nil (fsub_cons zMem (fsub_cons zMem fsub_nil)) ⟨k, v1, .slice none 0 0, [], [], (0, 0), _, rfl, rfl, rfl, .inr ⟨rfl, none_of hws.symm (bad_pol hkk' hw')⟩⟩
        · have hwlen : w.length ≤ 2000000 := by have := (hwm w (.tail _ (.head _))).1; omega
          have hulen : u.length ≤ 2000000 := by have := (hwm u (.tail _ (.tail _ (.tail _ (.head _))))).1; omega
          have hk12 := (tw_two hkk).1.1 e1
          clear hwm hwl hwn
          obtain ⟨l4, hl4⟩ : ∃ l4, l4 = [(tw (k : Int)).1, w, (tw (k : Int)).2, u] := ⟨_, rfl⟩
          have hg0 : [(tw (k : Int)).1, w, (tw (k : Int)).2, u][0]? = some (tw (k : Int)).1 := rfl
          have hg1 : [(tw (k : Int)).1, w, (tw (k : Int)).2, u][1]? = some w := rfl
          have hg2 : [(tw (k : Int)).1, w, (tw (k : Int)).2, u][2]? = some (tw (k : Int)).2 := rfl
          have hg3 : [(tw (k : Int)).1, w, (tw (k : Int)).2, u][3]? = some u := rfl
          all_goals (((try refine zR2 ?_) <;> (repeat' (with_reducible first | refine And.intro ?_ ?_ | intro _))) <;> (repeat' ((first | ((with_reducible apply l_callP); exact rfl; exact zEvs; exact rfl; (with_reducible apply hW); (case hF => exact zFsub); (try any_goals (refine propId ?_; omega)))) <;> ((try refine zR2 ?_) <;> (repeat' (with_reducible first | refine And.intro ?_ ?_ | intro _))))))
          all_goals (first | (exfalso; omega) | skip)
          all_goals first | (exfalso; contradiction) | (exfalso; simp_all; done) | skip
          refine l_call rfl zEvs rfl (l04Read_spec w hwlen) zTake zFsub ?_
          rintro _ L' F' ⟨v1, b, zs, rfl, rfl, rfl, hb⟩
          refine l_isList (.head _) fun hsv1 => ?_
          by_cases hk1 : (k : Int) = 1
          · rcases hb with ⟨rfl, h1, h2⟩ | ⟨rfl, rfl, kk, w', _, hkk', hw'⟩
            · all_goals ((try refine zR2 ?_) <;> (repeat' (with_reducible first | refine And.intro ?_ ?_ | intro _)))
              all_goals first | (exfalso; contradiction) | skip
              rename_i b11 _
              refine l_call rfl zEvs rfl (l04ReadNumber_spec u hulen) zTake zFsub ?_
              rintro _ L' F' ⟨z, c, rfl, hz1, hz2, rfl, rfl⟩
              cases c with
              | true =>
                obtain ⟨a, ha, _⟩ := (hz1 rfl).fin
                all_goals ((try refine zR2 ?_) <;> (repeat' (with_reducible first | refine And.intro ?_ ?_ | intro _)))
                refine c_nilCx ?_
                have hI := l11Is_spec (k : Int) v1 (.slice none 0 0) zs [] z hkk (h2.fin (by omega)) finL_nil ⟨.inr rfl, .inl ⟨hk1, a, ha⟩⟩
                have hk2 : ¬ k2 (k : Int) := fun e => (tw_two hkk).2.2.2 e hk1
                refine c_draw ([10], []) [.box b11 [.int .i64 (k : Int), v1, .slice none 0 0, .complex .f64 z.1 z.2] 71] [0, 1, 2, 3, 4, 5, 6, 7, 8, 9, 10] (by kernel_rfl) (by kernel_rfl) ?_
                all_goals (((try refine zD2 ?_) <;> (repeat' (with_reducible first | refine And.intro ?_ ?_ | intro _))) <;> (repeat' ((first | ((with_reducible apply l_callP); exact rfl; exact zEvs; exact rfl; (with_reducible apply hI); (case hF => exact zFsub); (try any_goals (refine propId ?_; omega)))) <;> ((try refine zD2 ?_) <;> (repeat' (with_reducible first | refine And.intro ?_ ?_ | intro _))))))
                by_cases hP : IsPol zs
                · exact e_resT rfl zRes .nil (fsub_cons zMem (fsub_cons zMem fsub_nil)) ⟨k, v1, .slice none 0 0, zs, [], z, decide (IsPol zs ∧ (k2 (k : Int) → IsPol [])), rfl, rfl, rfl, .inl ⟨decide_eq_true ⟨hP, fun e => absurd e hk2⟩, hkk, w, yes_pol h1 h2 hP, .inr ⟨u, e1, hws.symm, .inl ⟨hk1, rfl, hz1 rfl⟩⟩⟩⟩
                · exact e_resT rfl zRes .nil (fsub_cons zMem (fsub_cons zMem fsub_nil)) ⟨k, v1, .slice none 0 0, zs, [], z, decide (IsPol zs ∧ (k2 (k : Int) → IsPol [])), rfl, rfl, rfl, .inr ⟨decide_eq_false (fun e => hP e.1), none_of hws.symm (no_pol h1 h2 hP)⟩⟩
              | false =>
                all_goals ((try refine zR2 ?_) <;> (repeat' (with_reducible first | refine And.intro ?_ ?_ | intro _)))
                refine c_nilCx ?_
                refine c_draw ([10], []) [.box b11 [.int .i64 (k : Int), v1, .slice none 0 0, .complex .f64 z.1 z.2] 71] [0, 1, 2, 3, 4, 5, 6, 7, 8, 9, 10] (by kernel_rfl) (by kernel_rfl) ?_
                all_goals ((try refine zD2 ?_) <;> (repeat' (with_reducible first | refine And.intro ?_ ?_ | intro _)))
                exact e_resT rfl zRes .nil (fsub_cons zMem (fsub_cons zMem fsub_nil)) ⟨k, v1, .slice none 0 0, zs, [], z, false, rfl, rfl, rfl, .inr ⟨rfl, none_u hkk e1 hws.symm (fun _ => hz2 rfl) (fun e => absurd hk1 e)⟩⟩
            · all_goals ((try refine zR2 ?_) <;> (repeat' (with_reducible first | refine And.intro ?_ ?_ | intro _)))
              all_goals first | (exfalso; contradiction) | skip
              rename_i b11 _
              refine l_call rfl zEvs rfl (l04ReadNumber_spec u hulen) zTake zFsub ?_
              rintro _ L' F' ⟨z, c, rfl, hz1, hz2, rfl, rfl⟩
              all_goals ((try refine zR2 ?_) <;> (repeat' (with_reducible first | refine And.intro ?_ ?_ | intro _)))
              refine c_nilCx ?_
              refine c_draw ([10], []) [.box b11 [.int .i64 (k : Int), v1, .slice none 0 0, .complex .f64 z.1 z.2] 71] [0, 1, 2, 3, 4, 5, 6, 7, 8, 9, 10] (by kernel_rfl) (by kernel_rfl) ?_
              all_goals ((try refine zD2 ?_) <;> (repeat' (with_reducible first | refine And.intro ?_ ?_ | intro _)))
              exact e_resT rfl zRes .nil (fsub_cons zMem (fsub_cons zMem fsub_nil)) ⟨k, v1, .slice none 0 0, [], [], z, false, rfl, rfl, rfl, .inr ⟨rfl, none_of hws.symm (bad_pol hkk' hw')⟩⟩
          · have hk2 : k2 (k : Int) := hk12.resolve_left hk1
            rcases hb with ⟨rfl, h1, h2⟩ | ⟨rfl, rfl, kk, w', _, hkk', hw'⟩
            · all_goals ((try refine zR2 ?_) <;> (repeat' (with_reducible first | refine And.intro ?_ ?_ | intro _)))
              all_goals first | (exfalso; contradiction) | skip
              rename_i b11 _
              refine l_call rfl zEvs rfl (l04Read_spec u hulen) zTake zFsub ?_
              rintro _ L' F' ⟨v2, c, ys, rfl, rfl, rfl, hc⟩
              refine l_isList (.head _) fun hsv2 => ?_
              rcases hc with ⟨rfl, h3, h4⟩ | ⟨rfl, rfl, kk', w'', _, hkk'', hw''⟩
              · all_goals ((try refine zR2 ?_) <;> (repeat' (with_reducible first | refine And.intro ?_ ?_ | intro _)))
                have hI := l11Is_spec (k : Int) v1 v2 zs ys (0, 0) hkk (h2.fin (by omega)) (h4.fin (by omega)) ⟨.inl hk2, .inr ⟨hk1, rfl⟩⟩
                refine c_draw ([10], []) [.box b11 [.int .i64 (k : Int), v1, v2, .complex .f64 0 0] 71] [0, 1, 2, 3, 4, 5, 6, 7, 8, 9, 10] (by kernel_rfl) (by kernel_rfl) ?_
                all_goals (((try refine zD2 ?_) <;> (repeat' (with_reducible first | refine And.intro ?_ ?_ | intro _))) <;> (repeat' ((first | ((with_reducible apply l_callP); exact rfl; exact zEvs; exact rfl; (with_reducible apply hI); (case hF => exact zFsub); (try any_goals (refine propId ?_; omega)))) <;> ((try refine zD2 ?_) <;> (repeat' (with_reducible first | refine And.intro ?_ ?_ | intro _))))))
                by_cases hP : IsPol zs
                · by_cases hP2 : IsPol ys
                  · exact e_resT rfl zRes .nil (fsub_cons zMem (fsub_cons zMem fsub_nil)) ⟨k, v1, v2, zs, ys, (0, 0), decide (IsPol zs ∧ (k2 (k : Int) → IsPol ys)), rfl, rfl, rfl, .inl ⟨decide_eq_true ⟨hP, fun _ => hP2⟩, hkk, w, yes_pol h1 h2 hP, .inr ⟨u, e1, hws.symm, .inr ⟨hk1, yes_pol h3 h4 hP2, rfl⟩⟩⟩⟩
                  · exact e_resT rfl zRes .nil (fsub_cons zMem (fsub_cons zMem fsub_nil)) ⟨k, v1, v2, zs, ys, (0, 0), decide (IsPol zs ∧ (k2 (k : Int) → IsPol ys)), rfl, rfl, rfl, .inr ⟨decide_eq_false (fun e => hP2 (e.2 hk2)), none_u hkk e1 hws.symm (fun e => absurd e hk1) (fun _ => no_pol h3 h4 hP2)⟩⟩
                · exact e_resT rfl zRes .nil (fsub_cons zMem (fsub_cons zMem fsub_nil)) ⟨k, v1, v2, zs, ys, (0, 0), decide (IsPol zs ∧ (k2 (k : Int) → IsPol ys)), rfl, rfl, rfl, .inr ⟨decide_eq_false (fun e => hP e.1), none_of hws.symm (no_pol h1 h2 hP)⟩⟩
              · all_goals ((try refine zR2 ?_) <;> (repeat' (with_reducible first | refine And.intro ?_ ?_ | intro _)))
                refine c_draw ([10], []) [.box b11 [.int .i64 (k : Int), v1, v2, .complex .f64 0 0] 71] [0, 1, 2, 3, 4, 5, 6, 7, 8, 9, 10] (by kernel_rfl) (by kernel_rfl) ?_
                all_goals ((try refine zD2 ?_) <;> (repeat' (with_reducible first | refine And.intro ?_ ?_ | intro _)))
                exact e_resT rfl zRes .nil (fsub_cons zMem (fsub_cons zMem fsub_nil)) ⟨k, v1, v2, zs, [], (0, 0), false, rfl, rfl, rfl, .inr ⟨rfl, none_u hkk e1 hws.symm (fun e => absurd e hk1) (fun _ => bad_pol hkk'' hw'')⟩⟩
            · all_goals ((try refine zR2 ?_) <;> (repeat' (with_reducible first | refine And.intro ?_ ?_ | intro _)))
              all_goals first | (exfalso; contradiction) | skip
              rename_i b11 _
              refine l_call rfl zEvs rfl (l04Read_spec u hulen) zTake zFsub ?_
              rintro _ L' F' ⟨v2, c, ys, rfl, rfl, rfl, hc⟩
              refine l_isList (.head _) fun hsv2 => ?_
              clear hc
              all_goals ((try refine zR2 ?_) <;> (repeat' (with_reducible first | refine And.intro ?_ ?_ | intro _)))
              refine c_draw ([10], []) [.box b11 [.int .i64 (k : Int), v1, v2, .complex .f64 0 0] 71] [0, 1, 2, 3, 4, 5, 6, 7, 8, 9, 10] (by kernel_rfl) (by kernel_rfl) ?_
              all_goals ((try refine zD2 ?_) <;> (repeat' (with_reducible first | refine And.intro ?_ ?_ | intro _)))
              exact e_resT rfl zRes .nil (fsub_cons zMem (fsub_cons zMem fsub_nil)) ⟨k, v1, v2, [], ys, (0, 0), false, rfl, rfl, rfl, .inr ⟨rfl, none_of hws.symm (bad_pol hkk' hw')⟩⟩
      · have hnk : ∀ (j : Nat) zs ys z, j < k + 1 → ¬ PTask t (j : Int) zs ys z := fun j zs ys z hj hP => by
          by_cases hjk : j = k
          · subst hjk
            obtain ⟨_, w, _, ⟨e1, e2, _⟩ | ⟨u, e1, e2, _⟩⟩ := hP
            · exact hfit (.inl ⟨w, e1, by rw [hws, e2]⟩)
            · exact hfit (.inr ⟨w, u, e1, by rw [hws, e2]⟩)
          · exact hno j zs ys z (by omega) hP
        all_goals (((try refine zR2 ?_) <;> (repeat' (with_reducible first | refine And.intro ?_ ?_ | intro _))) <;> (repeat' ((first | ((with_reducible apply l_callP); exact rfl; exact zEvs; exact rfl; (with_reducible apply hW); (case hF => exact zFsub); (try any_goals (refine propId ?_; omega)))) <;> ((try refine zR2 ?_) <;> (repeat' (with_reducible first | refine And.intro ?_ ?_ | intro _))))))
        all_goals (first | (exfalso; omega) | skip)
        all_goals first
          | (refine e_again ⟨k + 1, by omega, hnk⟩ (by dsimp only; omega) zSub rfl zFsub; done)
          | skip
        · exfalso
          obtain ⟨w, u, e⟩ := fit_four (by omega) hw0 (by omega) (Decidable.of_not_not (by assumption : ¬ ws[0] ≠ _)) (Decidable.of_not_not (by assumption : ¬ ws[2] ≠ _))
          exact hfit (.inr ⟨w, u, by assumption, e⟩)
        · exfalso
          obtain ⟨w, e⟩ := fit_two (by omega) hw0 (Decidable.of_not_not (by assumption : ¬ ws[0] ≠ _))
          exact hfit (.inl ⟨w, Decidable.of_not_not (by assumption), e⟩)
    · all_goals ((try refine zR2 ?_) <;> (repeat' (with_reducible first | refine And.intro ?_ ?_ | intro _)))
      all_goals (first | (exfalso; omega) | skip)
      refine ends_take (L' := [.box b2 [.int .i64 0, .slice none 0 0, .slice none 0 0, .complex .f64 0 0] 71]) zTake ?_
      refine e_out ⟨(), fun k' zs ys z hP => ?_⟩ zSub rfl zFsub
      have hb := hP.1
      refine hno k'.toNat zs ys z (by omega) ?_
      rw [Int.toNat_of_nonneg hb.1]
      exact hP
  · rintro ⟨_, hno⟩
    all_goals ((try refine zR2 ?_) <;> (repeat' (with_reducible first | refine And.intro ?_ ?_ | intro _)))
    refine ends_nilCx ?_
    exact e_resT rfl zRes .nil (fsub_cons (.head _) (fsub_cons (.head _) fsub_nil)) ⟨0, .slice none 0 0, .slice none 0 0, [], [], (0, 0), false, rfl, rfl, rfl, .inr ⟨rfl, hno⟩⟩
/-- What the reference's ParseTask hands back. -/
def PTk (t : List UInt8) (r : Value) (L' : List Own) (F' : List Fact) : Prop := ∃ k v1 v2 zs ys z code, r = .tuple #[vTask k v1 v2 z, .int .i64 code] ∧ L' = [] ∧ F' = [fList 1 rCx v1 zs, fList 1 rCx v2 ys] ∧
  ((code = 0 ∧ PTask t k zs ys z) ∨ (code = 6 ∧ (k = 0 ∧ zs = [] ∧ ys = [] ∧ z = (0, 0)) ∧ ∀ k zs ys z, ¬ PTask t k zs ys z))
theorem specTask_spec (t : List UInt8) (hl : t.length ≤ 2000000) : Spec Tryz.prog 49 [.string ⟨t.toArray⟩] [] [] (PTk t) := by
  refine enter Tryz.func49 Tryz.ntmps49 rfl (by kernel_rfl) zCon rfl fun G => ?_
  all_goals ((try refine zR2 ?_) <;> (repeat' (with_reducible first | refine And.intro ?_ ?_ | intro _)))
  refine l_call rfl zEvs rfl (l11Read_spec t hl) zTake zFsub ?_
  rintro _ L' F' ⟨k, v1, v2, zs, ys, z, b, rfl, rfl, rfl, hb⟩
  refine l_isList (v := v1) (.head _) fun hs1 => ?_
  refine l_isList (v := v2) (.tail _ (.head _)) fun hs2 => ?_
  rcases hb with ⟨rfl, hP⟩ | ⟨rfl, hno⟩
  · all_goals ((try refine zR2 ?_) <;> (repeat' (with_reducible first | refine And.intro ?_ ?_ | intro _)))
    exact e_resT rfl zRes .nil (fsub_cons zMem (fsub_cons zMem fsub_nil)) ⟨k, v1, v2, zs, ys, z, 0, rfl, rfl, rfl, .inl ⟨rfl, hP⟩⟩
  · all_goals ((try refine zR2 ?_) <;> (repeat' (with_reducible first | refine And.intro ?_ ?_ | intro _)))
    refine ends_nilCx ?_
    exact e_resT rfl zRes .nil (fsub_cons (.head _) (fsub_cons (.head _) fsub_nil)) ⟨0, .slice none 0 0, .slice none 0 0, [], [], (0, 0), 6, rfl, rfl, rfl, .inr ⟨rfl, ⟨rfl, rfl, rfl, rfl⟩, hno⟩⟩
end Go.Proofs.YtbllgmcpebifhaaGreatDoor.K
end
