/- Plain laws: the texts of finite numbers; words joined. -/
import Derived.Test.YtbllgmcpebifhaaGreatDoorZNk
import Derived.Lib.SplitLaws
import Derived.Lib.Join

section
namespace Go.Proofs.YtbllgmcpebifhaaGreatDoor.K
open Go Go.RowKit Go.Lib
set_option linter.all false
set_option exponentiation.threshold 6000

/-- The text of a finite float. -/
def DyT (x : Nat) (u : List UInt8) : Prop := ∃ A v e, fv x = some A ∧ VEq A v e ∧ Nrm v e ∧ u = itoa v ++ 112 :: itoa e
theorem DyT.uniq {x : Nat} {u w : List UInt8} (h : DyT x u) (h' : DyT x w) : u = w := by
  obtain ⟨A, v, e, h1, h2, h3, rfl⟩ := h
  obtain ⟨B, w, f, h4, h5, h6, rfl⟩ := h'
  obtain rfl := Option.some.inj (h1.symm.trans h4)
  obtain ⟨rfl, rfl⟩ := h2.form h5 h3 h6
  rfl
open Classical in
noncomputable def dytx (x : Nat) : List UInt8 := if h : ∃ u, DyT x u then h.choose else []
theorem DyT.eq {x : Nat} {u : List UInt8} (h : DyT x u) : dytx x = u := by
  unfold dytx
  rw [dif_pos ⟨u, h⟩]
  exact (Exists.choose_spec (⟨u, h⟩ : ∃ u, DyT x u)).uniq h
theorem Dbl.dyt {t : List UInt8} {x : Nat} (h : Dbl t x) : DyT x t := by
  obtain ⟨_, v, e, a, h1, h2, h3, _⟩ := h
  exact ⟨a, v, e, h2, h3, (isD_nrm h1.2).1, h1.1⟩
theorem DyT.dbl {x : Nat} {u : List UInt8} (hx : x < 18446744073709551616) (h : DyT x u) : ∃ y, Dbl u y := by
  obtain ⟨A, v, e, h1, h2, h3, rfl⟩ := h
  rcases h3 with ⟨rfl, rfl⟩ | hv
  · refine ⟨0, by omega, 0, 0, 0, ⟨rfl, ?_⟩, fv_zero, VEq.of_zero 0, fun _ => rfl⟩
    rw [show (0 : Int).natAbs = 0 from rfl, limbs_zero]; decide
  · obtain ⟨b1, b2, b3, _⟩ := h2.bounds (fv_rep h1) hv
    exact ⟨x, hx, v, e, A, ⟨rfl, nrm_isD (.inr hv) (Nat.lt_of_lt_of_le b1 (Nat.pow_le_pow_right (by omega) (by omega))) (by omega)⟩, h1, h2, fun h0 => by omega⟩
theorem DyT.ex {x : Nat} {A : Int} (h : fv x = some A) : DyT x (dytx x) := by
  have h1 : ∃ u, DyT x u := by
    by_cases h0 : A = 0
    · subst h0
      exact ⟨_, 0, 0, 0, h, VEq.of_zero 0, .inl ⟨rfl, rfl⟩, rfl⟩
    · refine ⟨_, A, nv A, ne A (-1074), h, ⟨0, twos A.natAbs, ?_, ?_⟩, nv_nrm A (-1074), rfl⟩
      · rw [nv_mul]; simp
      · unfold ne; rw [if_neg h0]; omega
  obtain ⟨u, hu⟩ := h1
  rw [hu.eq]; exact hu
theorem DyT.len {x : Nat} {u : List UInt8} (h : DyT x u) : u.length ≤ 100 := by
  obtain ⟨A, v, e, h1, h2, h3, rfl⟩ := h
  have hb : v.natAbs < 2 ^ 53 ∧ -5000 ≤ e ∧ e ≤ 5000 := by
    rcases h3 with ⟨rfl, rfl⟩ | hv
    · exact ⟨by decide, by omega, by omega⟩
    · obtain ⟨b1, b2, b3, _⟩ := h2.bounds (fv_rep h1) hv
      exact ⟨b1, by omega, by omega⟩
  have e53 : (2 : Nat) ^ 53 = 9007199254740992 := by decide
  have i1 := itoa_length_le v (by omega) (by omega)
  have i2 := itoa_length_le e (by omega) (by omega)
  simp; omega
/-- The text of a complex number. -/
noncomputable def numt (z : Nat × Nat) : List UInt8 := dytx z.1 ++ 44 :: dytx z.2
theorem numt_len {z : Nat × Nat} {A B : Int} (h1 : fv z.1 = some A) (h2 : fv z.2 = some B) : (numt z).length ≤ 201 := by
  have := (DyT.ex h1).len
  have := (DyT.ex h2).len
  unfold numt
  simp; omega
theorem numt_dblz {z : Nat × Nat} {A B : Int} (h64 : z.1 < 18446744073709551616 ∧ z.2 < 18446744073709551616) (h1 : fv z.1 = some A) (h2 : fv z.2 = some B) : ∃ y, DblZ (numt z) y := by
  obtain ⟨a, ha⟩ := (DyT.ex h1).dbl h64.1
  obtain ⟨b, hb⟩ := (DyT.ex h2).dbl h64.2
  exact ⟨(a, b), dytx z.1, dytx z.2, rfl, ha, hb⟩
theorem DblZ.numt {w : List UInt8} {z : Nat × Nat} (h : DblZ w z) : numt z = w := by
  obtain ⟨a, b, rfl, h1, h2⟩ := h
  unfold K.numt
  rw [h1.dyt.eq, h2.dyt.eq]

/-- Words joined by a byte. -/
def joinW (c : UInt8) : List (List UInt8) → List UInt8
  | [] => []
  | [w] => w
  | w :: v :: ws => w ++ c :: joinW c (v :: ws)
theorem joinW_len (c : UInt8) (m : Nat) : ∀ ws : List (List UInt8), (∀ w ∈ ws, w.length ≤ m) → (joinW c ws).length ≤ (m + 1) * ws.length
  | [], _ => by simp [joinW]
  | [w], h => by have := h w (.head _); simp [joinW]; omega
  | w :: v :: ws, h => by
    have h1 := h w (.head _)
    have h2 := joinW_len c m (v :: ws) fun x hx => h x (.tail _ hx)
    show (w ++ c :: joinW c (v :: ws)).length ≤ (m + 1) * ((v :: ws).length + 1)
    rw [Nat.mul_add, List.length_append, List.length_cons]
    omega
theorem joinW_spl (c : UInt8) : ∀ t : List UInt8, joinW c (spl c t) = t
  | [] => rfl
  | x :: t => by
    have ih := joinW_spl c t
    have hne := spl_ne c t
    unfold spl
    revert ih hne
    generalize spl c t = ws
    intro ih hne
    match ws, hne with
    | w :: ws, _ =>
      by_cases hx : x = c
      · rw [if_pos hx]
        show [] ++ c :: joinW c (w :: ws) = x :: t
        rw [ih, hx]; rfl
      · rw [if_neg hx]
        match ws with
        | [] => show x :: w = x :: t
                rw [show w = t from ih]
        | v :: ws => show (x :: w) ++ c :: joinW c (v :: ws) = x :: t
                     rw [← ih]; rfl
theorem spl_joinW (c : UInt8) : ∀ ws : List (List UInt8), ws ≠ [] → (∀ w ∈ ws, c ∉ w) → spl c (joinW c ws) = ws
  | [], h, _ => absurd rfl h
  | [w], _, h => spl_miss c w (h w (.head _))
  | w :: v :: ws, _, h => by
    show spl c (w ++ c :: joinW c (v :: ws)) = _
    rw [spl_hit c _ w (h w (.head _)), spl_joinW c (v :: ws) (by simp) fun x hx => h x (.tail _ hx)]
theorem joinW_join (c : UInt8) : ∀ ws : List (List UInt8), joinW c ws = Lib.join ws [c]
  | [] => rfl
  | [w] => by rw [Lib.join_one]; rfl
  | w :: v :: ws => by
    show w ++ c :: joinW c (v :: ws) = _
    rw [joinW_join c (v :: ws)]
    simp [Lib.join, List.intercalate]
theorem PPol.text {t : List UInt8} {zs : List (Nat × Nat)} (h : PPol t zs) : joinW 59 (zs.map numt) = t := by
  have e : zs.map numt = spl 59 t := by
    apply List.ext_getElem?
    intro k
    by_cases hk : k < zs.length
    · have e1 := List.getElem?_eq_getElem hk
      have e2 := List.getElem?_eq_getElem (l := spl 59 t) (by rw [← h.1]; exact hk)
      rw [List.getElem?_map, e1, e2, Option.map_some, (h.2.1 k _ _ e2 e1).numt]
    · rw [List.getElem?_eq_none (by simpa using hk), List.getElem?_eq_none (by rw [← h.1]; omega)]
  rw [e, joinW_spl]
end Go.Proofs.YtbllgmcpebifhaaGreatDoor.K
end

section
/- The program's texts of numbers: strings.Split at a blank, strings.Join by ';', ExactOf, numbersText. -/
namespace Go.Proofs.YtbllgmcpebifhaaGreatDoor.K
open Go Go.RowKit Go.Lib
set_option linter.all false
set_option exponentiation.threshold 6000

theorem spl_count (c : UInt8) : ∀ t : List UInt8, (spl c t).length = t.count c + 1
  | [] => rfl
  | x :: t => by
    have ih := spl_count c t
    have hne := spl_ne c t
    unfold spl
    revert ih hne
    generalize spl c t = ws
    intro ih hne
    match ws, hne with
    | w :: ws, _ =>
      by_cases hx : x = c
      · rw [if_pos hx, List.length_cons, ih, hx, List.count_cons_self]
      · rw [if_neg hx, List.count_cons_of_ne hx]
        exact ih
/-- The words that Split hands back. -/
def PSpw (t : List UInt8) (r : Value) (L' : List Own) (F' : List Fact) : Prop := L' = [.row r 9 1 (spl 32 t).length ((spl 32 t).map str)] ∧ F' = []
theorem Split_spec (t : List UInt8) (hl : t.length ≤ 2000000) : Spec Tryz.prog 131 [.string ⟨t.toArray⟩, .string ⟨#[32]⟩] [] [fMax] (PSpw t) := by
  refine ⟨⟨Tryz.f131, _, Tryz.func131, rfl, by kernel_rfl⟩, fun w X hX hL hF => ?_⟩
  obtain ⟨⟨v, h1, m, rfl⟩, _, _⟩ := hF _ (.head _)
  have hsz : (⟨t.toArray⟩ : ByteArray).size = t.length := by simp [ByteArray.size]
  refine (Tryz.strings_Split ⟨t.toArray⟩ ⟨#[32]⟩ m w (by omega) h1 (by decide)).mono ?_
  have hcnt : countB ⟨t.toArray⟩ ⟨#[32]⟩ = t.count 32 := count_one 32 t
  have hd : (splitB ⟨#[32]⟩ 0 (t.count 32) ⟨t.toArray⟩).map (·.data.toList) = splitK [32] 0 (t.count 32) t := splitB_data ⟨#[32]⟩ 0 (t.count 32) ⟨t.toArray⟩
  obtain ⟨_, i2, _⟩ := splitK_spl 32 (t.count 32) t
  have hst := spl_len 32 t
  have hlen := spl_count 32 t
  rw [i2 (by omega)] at hd
  rw [hcnt]
  generalize splitB ⟨#[32]⟩ 0 (t.count 32) ⟨t.toArray⟩ = bs at hd ⊢
  rintro en w' ⟨rfl, rfl⟩
  have hbs : (spl 32 t).map str = bs.map Value.string := by
    rw [← hd, List.map_map]
    apply List.map_congr_left
    intro b _
    rfl
  have hlb : (spl 32 t).length = bs.length := by rw [← hd, List.length_map]
  refine ⟨_, [.row _ 9 1 _ ((spl 32 t).map str)], [], rfl, ⟨rfl, rfl⟩, ⟨rfl, rfl, rfl, by simp, fun x hx _ => Below.heap_alloc w _ x hx⟩, ⟨fun o h => ?_, ?_⟩, fun x hx => ?_, fun φ h => (by cases h)⟩
  · rw [List.mem_singleton.1 h, hlen]
    refine ⟨by simp [hlen], .inr ⟨w.heap.size, t.count 32 + 1, _, rfl, Nat.zero_le _, Go.heap_alloc_new w _, Nat.le_refl _, by simp only [maxLen]; omega, by simp; omega, ?_⟩⟩
    rw [hbs, Nat.mul_one, List.toList_toArray]
    apply List.take_of_length_le
    simp; omega
  · exact ⟨fun x _ => keys_nil x, trivial⟩
  · right
    obtain ⟨o, ho, hk⟩ := hx
    rw [List.mem_singleton.1 ho] at hk
    have : w.heap.size = x := by simpa [Own.key, Value.ownBlock] using hk
    omega
theorem Join_spec (v : Value) (ws : List (List UInt8)) (hne : ws ≠ []) (hl : ws.length ≤ 1000) (hj : (joinW 59 ws).length ≤ 100000000) :
    Spec Tryz.prog 204 [v, .string ⟨#[59]⟩] [.row v 9 1 ws.length (ws.map str)] [] (PVal (.string ⟨(joinW 59 ws).toArray⟩) [.row v 9 1 ws.length (ws.map str)]) := by
  refine ⟨⟨Tryz.f204, _, Tryz.func204, rfl, by kernel_rfl⟩, fun w X hX hL hF => ?_⟩
  have hr : w.ownsRow 0 9 1 v ws.length (ws.map str) := hL.all _ (.head _)
  have hpos : 0 < ws.length := List.length_pos_iff.2 hne
  rcases hr.2 with ⟨_, h0⟩ | ⟨b, cap, cur, hv, _, hh, h1, h2, h3, h4⟩
  · omega
  have hblt : b < w.heap.size := by
    rcases Nat.lt_or_ge b w.heap.size with h | h
    · exact h
    · rw [Array.getElem?_eq_none h] at hh; cases hh
  have hjj : Lib.join ((ws.map fun l => (⟨l.toArray⟩ : ByteArray)).map (·.data.toList)) (⟨#[59]⟩ : ByteArray).data.toList = joinW 59 ws := by
    rw [joinW_join, List.map_map]
    congr 1
    conv => rhs; rw [← List.map_id ws]
    rfl
  have hc := Tryz.strings_Join b 0 cap (ws.map fun l => ⟨l.toArray⟩) ⟨#[59]⟩ w (fun j x hx => by
    rw [List.getElem?_map] at hx
    obtain ⟨l, hl1, rfl⟩ := Option.map_eq_some_iff.1 hx
    have hj1 : j < ws.length := (List.getElem?_eq_some_iff.1 hl1).1
    have h5 : (ws.map str)[j]? = some (str l) := by rw [List.getElem?_map, hl1]; rfl
    rw [← h4, List.getElem?_take, if_pos (by omega)] at h5
    unfold World.cell?
    rw [hh]
    simpa [str] using h5) hblt (by simp; omega) (by simp; omega) (by rw [hjj]; omega)
  rw [hjj, List.length_map, ← hv] at hc
  refine hc.mono ?_
  rintro en w' ⟨rfl, hb⟩
  have hbb := hb.block b hblt
  refine ⟨_, _, [], rfl, ⟨rfl, rfl, rfl⟩, ⟨hb.os, hb.tape, hb.output, hb.size, fun x hx _ => hb.block x hx⟩, ⟨fun o h => ?_, ⟨fun x _ => keys_nil x, trivial⟩⟩, fun x hx => .inl hx, fun φ h => (by cases h)⟩
  rw [List.mem_singleton.1 h]
  exact ⟨hr.1, .inr ⟨b, cap, cur, hv, Nat.zero_le _, by rw [hbb]; exact hh, h1, h2, h3, h4⟩⟩
end Go.Proofs.YtbllgmcpebifhaaGreatDoor.K
end

section
/- The program's texts of numbers: ExactOf, numbersText. -/
namespace Go.Proofs.YtbllgmcpebifhaaGreatDoor.K
open Go Go.RowKit Go.Lib
set_option linter.all false
set_option maxRecDepth 4000
set_option maxHeartbeats 1000000
set_option exponentiation.threshold 6000

/-- Finite numbers in 64 bits. -/
def Fin64 (x : Nat) : Prop := x < 18446744073709551616 ∧ ∃ A, fv x = some A
def FinN (zs : List (Nat × Nat)) : Prop := ∀ z ∈ zs, Fin64 z.1 ∧ Fin64 z.2
/-- Both exact parts. -/
def PEx (z : Nat × Nat) (r : Value) (L' : List Own) (F' : List Fact) : Prop := ∃ v e u w f u', r = .tuple #[.agg #[.int .i64 (sgn v), u, .int .i64 e, .int .i64 (sgn w), u', .int .i64 f], .int .i64 0] ∧
  IsD (sgn v) e (limbs v.natAbs) ∧ IsD (sgn w) f (limbs w.natAbs) ∧ dytx z.1 = itoa v ++ 112 :: itoa e ∧ dytx z.2 = itoa w ++ 112 :: itoa f ∧ L' = [] ∧ F' = [fList 1 (rInt .i64) u' (limbs w.natAbs), fList 1 (rInt .i64) u (limbs v.natAbs)]
theorem ExactOf_spec (z : Nat × Nat) (h1 : Fin64 z.1) (h2 : Fin64 z.2) : Spec Tryz.prog 203 [.complex .f64 z.1 z.2] [] [fTz] (PEx z) := by
  obtain ⟨x64, A, hA⟩ := h1
  obtain ⟨y64, B, hB⟩ := h2
  refine enter Tryz.func203 Tryz.ntmps203 rfl (by kernel_rfl) zCon rfl fun G => ?_
  have hI := IsFinite_fin z (A, B) ⟨hA, hB⟩
  have hb : ∀ k : Int, k.natAbs < 2 ^ 53 → k.natAbs < 2 ^ 4800 := fun k h => Nat.lt_of_lt_of_le h (Nat.pow_le_pow_right (by omega) (by omega))
  all_goals (((try refine zR2 ?_) <;> (repeat' (with_reducible first | refine And.intro ?_ ?_ | intro _))) <;> (repeat' ((first | ((with_reducible apply l_callP); exact rfl; exact zEvs; exact rfl; (with_reducible apply hI); (case hF => exact zFsub); (try any_goals (refine propId ?_; omega)))) <;> ((try refine zR2 ?_) <;> (repeat' (with_reducible first | refine And.intro ?_ ?_ | intro _))))))
  refine l_call rfl zEvs rfl (DyadicOf_spec z.1 A x64 hA) zTake zFsub ?_
  rintro _ L' F' ⟨v, e, u, hV, hN, hv53, he1, he2, rfl, rfl, rfl⟩
  refine l_freezeInts (ik := .i64) (l := limbs v.natAbs) .head rfl ?_
  refine l_isList (.head _) fun hsu => ?_
  all_goals ((try refine zR2 ?_) <;> (repeat' (with_reducible first | refine And.intro ?_ ?_ | intro _)))
  refine l_call rfl zEvs rfl (DyadicOf_spec z.2 B y64 hB) zTake zFsub ?_
  rintro _ L' F' ⟨w, f, u2, hW, hM, hw53, hf1, hf2, rfl, rfl, rfl⟩
  refine l_freezeInts (ik := .i64) (l := limbs w.natAbs) .head rfl ?_
  refine l_isList (.head _) fun hsu2 => ?_
  all_goals ((try refine zR2 ?_) <;> (repeat' (with_reducible first | refine And.intro ?_ ?_ | intro _)))
  exact e_resT rfl zRes .nil (fsub_cons zMem (fsub_cons zMem fsub_nil)) ⟨v, e, u, w, f, u2, rfl, nrm_isD hN (hb v hv53) (by omega), nrm_isD hM (hb w hw53) (by omega), DyT.eq ⟨A, v, e, hA, hV, hN, rfl⟩, DyT.eq ⟨B, w, f, hB, hW, hM, rfl⟩, rfl, rfl⟩
theorem numbersText_spec (v : Value) (zs : List (Nat × Nat)) (hf : FinN zs) (hne : zs ≠ []) (hz : zs.length ≤ 100) : Spec Tryz.prog 137 [v] [] [fList 1 rCx v zs, fTab, fTz] (Gives (.string ⟨(joinW 59 (zs.map numt)).toArray⟩)) := by
  refine enter Tryz.func137 Tryz.ntmps137 rfl (by kernel_rfl) zCon rfl fun G => ?_
  refine c_isList (v := v) zMem fun hs1 => ?_
  all_goals ((try refine zR2 ?_) <;> (repeat' (with_reducible first | refine And.intro ?_ ?_ | intro _)))
  rename_i v0 _
  refine c_while (ι := { p : Value × Nat // p.2 ≤ zs.length }) (κ := Value)
    (fun p => [(9, v), (10, .int .i64 (zs.length : Int)), (11, .int .i64 (p.1.2 : Int)), (3, p.1.1)]) (fun p => [.row p.1.1 9 1 ((zs.take p.1.2).map numt).length (((zs.take p.1.2).map numt).map str)]) (fun _ => [fList 1 rCx v zs, fTab, fTz]) (fun p => zs.length - p.1.2)
    (fun p => [(3, p)]) (fun p => [.row p 9 1 (zs.map numt).length ((zs.map numt).map str)]) (fun _ => []) ⟨(v0, 0), Nat.zero_le _⟩ (fun _ _ s => s.start zSub zRfl zFsub) ?_ ?_
  · rintro ⟨⟨u, i⟩, hi⟩
    dsimp only at hi ⊢
    by_cases hi' : i < zs.length
    · obtain ⟨z, hz'⟩ : ∃ z, zs[i]? = some z := ⟨_, List.getElem?_eq_getElem hi'⟩
      obtain ⟨f1, f2⟩ := hf z (List.mem_of_getElem? hz')
      all_goals ((try refine zR2 ?_) <;> (repeat' (with_reducible first | refine And.intro ?_ ?_ | intro _)))
      all_goals (first | (exfalso; omega) | skip)
      refine l_call rfl zEvs rfl (ExactOf_spec z f1 f2) zTake zFsub ?_
      rintro _ L' F' ⟨n, e, a, m, f, b, rfl, hD1, hD2, hT1, hT2, rfl, rfl⟩
      refine l_isList (v := b) (.head _) fun hsb => ?_
      refine l_isList (v := a) (.tail _ (.head _)) fun hsa => ?_
      all_goals ((try refine zR2 ?_) <;> (repeat' (with_reducible first | refine And.intro ?_ ?_ | intro _)))
      rename_i b6
      have htx1 := dtext_spec (sgn n) e a (limbs n.natAbs) hD1
      have htx2 := dtext_spec (sgn m) f b (limbs m.natAbs) hD2
      rw [wText_itoa, ← hT1] at htx1
      rw [wText_itoa, ← hT2] at htx2
      obtain ⟨T1, hT1'⟩ : ∃ T1, T1 = dytx z.1 := ⟨_, rfl⟩
      obtain ⟨T2, hT2'⟩ : ∃ T2, T2 = dytx z.2 := ⟨_, rfl⟩
      rw [← hT1'] at htx1
      rw [← hT2'] at htx2
      have hnt : T1 ++ [44] ++ T2 = numt z := by rw [hT1', hT2']; unfold numt; simp
      have hlen1 : T1.length ≤ 10000 := by
        rw [hT1', hT1]
        have e1 := wText_le hD1.1
        rw [wText_itoa] at e1
        have e2 := itoa_length_le e (by have := hD1.2.1; omega) (by have := hD1.2.1; omega)
        simp; omega
      have hlen2 : T2.length ≤ 10000 := by
        rw [hT2', hT2]
        have e1 := wText_le hD2.1
        rw [wText_itoa] at e1
        have e2 := itoa_length_le f (by have := hD2.2.1; omega) (by have := hD2.2.1; omega)
        simp; omega
      clear hT1 hT2 hT1' hT2'
      refine c_draw ([11], []) [.box b6 [.int .i64 (sgn n), a, .int .i64 e, .int .i64 (sgn m), b, .int .i64 f] 205] [0, 1, 2, 5, 6, 3, 4, 7, 8, 9, 10, 11] (by kernel_rfl) (by kernel_rfl) ?_
      all_goals (((try refine zD2 ?_) <;> (repeat' (with_reducible first | refine And.intro ?_ ?_ | intro _))) <;> (repeat' ((first | ((with_reducible apply l_callP); exact rfl; exact zEvs; exact rfl; (with_reducible apply htx1); (case hF => exact zFsub); (try any_goals (refine propId ?_; omega))) | ((with_reducible apply l_callP); exact rfl; exact zEvs; exact rfl; (with_reducible apply htx2); (case hF => exact zFsub); (try any_goals (refine propId ?_; omega)))) <;> ((try refine zD2 ?_) <;> (repeat' (with_reducible first | refine And.intro ?_ ?_ | intro _))))))
      rename_i _ u'
      have htake : (zs.take i).map numt ++ [numt z] = (zs.take (i + 1)).map numt := by
        rw [List.take_add_one, hz']; simp
      have hlenT : ((zs.take i).map numt).length + 1 = ((zs.take (i + 1)).map numt).length := by rw [← htake]; simp
      rw [hnt, htake, hlenT]
      refine ends_take (L' := [.row u' 9 1 ((zs.take (i + 1)).map numt).length (((zs.take (i + 1)).map numt).map str)]) zTake ?_
      exact e_again ⟨(u', i + 1), hi'⟩ (by dsimp only; omega) zSub rfl zFsub
    · all_goals ((try refine zR2 ?_) <;> (repeat' (with_reducible first | refine And.intro ?_ ?_ | intro _)))
      all_goals (first | (exfalso; omega) | skip)
      have : i = zs.length := by omega
      subst this
      refine e_out u zSub ?_ zFsub
      rw [List.take_length]
  · intro u
    have hjl : (joinW 59 (zs.map numt)).length ≤ 100000000 := by
      have h1 := joinW_len 59 201 (zs.map numt) fun w hw => by
        obtain ⟨z, hz1, rfl⟩ := List.mem_map.1 hw
        obtain ⟨⟨_, A, hA⟩, ⟨_, B, hB⟩⟩ := hf z hz1
        exact numt_len hA hB
      rw [List.length_map] at h1
      omega
    all_goals ((try refine zR2 ?_) <;> (repeat' (with_reducible first | refine And.intro ?_ ?_ | intro _)))
    refine l_call rfl zEvs rfl (Join_spec u (zs.map numt) (by simpa using hne) (by simp; omega) hjl) zTake zFsub ?_
    rintro _ L' F' ⟨rfl, rfl, rfl⟩
    all_goals ((try refine zR2 ?_) <;> (repeat' (with_reducible first | refine And.intro ?_ ?_ | intro _)))
    exact e_resT rfl zRes (Lo := []) zTake fsub_nil ⟨rfl, rfl, rfl⟩
end Go.Proofs.YtbllgmcpebifhaaGreatDoor.K
end
