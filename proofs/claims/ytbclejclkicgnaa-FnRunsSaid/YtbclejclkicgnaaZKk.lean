/- The engine, part k: from the reading of the arguments to what is told of lists, and from a walk to a law's end. -/
import Derived.Test.YtbclejclkicgnaaZKg
import Derived.WalkKit
import Derived.ProofKit
import Derived.OpenShut
import Derived.ChangeStays
import Derived.ChangeSlices
import Derived.ChangeOld
import Derived.Deep.DeepHandedRow
import Derived.Lib.LaidTab
namespace Go.Proofs.Ytbclejclkicgnaa.K
open Go Go.RowKit Go.ChangeShapes Go.WideShapes Go.ChangeAt
set_option linter.all false

section
variable {H : Type} {enc : TypeId × Value → H} {P : Program} {w : World} {base : Nat} {held : Bool}

/-- A slice of numbers that is read is a list. -/
theorem readInts {t e : TypeId} {k : IntKind} {fuel : Nat} {v : Value} {x : DataW H × List MemPlace} (ht : P.underlying t = some (.slice e)) (he : P.underlying e = some (.int k)) (hc : P.cellsOf e = 1)
    (h : DataW.trod enc P w base (fun _ => true) held fuel t [v] = some x) : ∃ l, ListAt 1 (rInt k) v l w (fun _ => False) := by
  rcases open_ints ht he hc h with ⟨h1, _⟩ | ⟨a, len, cap, zs, h1, _, h3, h4, h5, _, h7, _⟩
  · injection h1 with h1
    exact ⟨[], .inl ⟨⟨none, h1⟩, rfl⟩⟩
  · injection h1 with h1
    have hz : zs.length = cap := by simpa using h5
    by_cases h0 : cap = 0
    · have hl : len = 0 := by omega
      subst hl; subst h0
      exact ⟨[], .inl ⟨⟨some a, h1⟩, rfl⟩⟩
    · obtain ⟨b, o, sp⟩ := a
      have c0 := h7 0 (by omega)
      have e0 : (⟨b, o, sp⟩ : Addr).add 0 = ⟨b, o, sp⟩ := by simp [Addr.add]
      rw [e0] at c0
      have c0' := c0
      unfold World.cell? at c0
      split at c0
      · rename_i c t' fr hh
        have hh : w.heap[b]? = some (.cells c t' fr) := hh
        split at c0
        · cases c0
        · rename_i hsp
          have hsp : sp = none := by simpa using hsp
          subst hsp
          have hcell : ∀ i, i < zs.length → c[o + i]? = some (.int k (zs.getD i 0)) := fun i hi => by
            have := h7 i hi
            rw [add_at] at this
            rwa [cell_of_row w b (o + i) c t' fr hh] at this
          have hlen : (zs.take len).length = len := by simp; omega
          refine ⟨zs.take len, .inr ⟨b, o, cap, c, t', fr, by rw [hlen]; exact h1, by omega, h4, hh, id, ?_, fun i y hy => ?_⟩⟩
          · have := hcell (cap - 1) (by omega)
            have := (Array.getElem?_eq_some_iff.1 this).1
            omega
          · have hi : i < len := by have := (List.getElem?_eq_some_iff.1 hy).1; omega
            have h8 := hcell i (by omega)
            obtain ⟨h9, h10⟩ := Array.getElem?_eq_some_iff.1 h8
            have hz2 : zs.getD i 0 = y := by
              rw [List.getElem?_take, if_pos hi] at hy
              rw [List.getD_eq_getElem?_getD, hy]; rfl
            show (c.toList.drop (o + i * 1)).take 1 = [.int k y]
            rw [Nat.mul_one, List.drop_eq_getElem_cons (by simpa using h9)]
            rw [hz2] at h10
            simp [h10]
      · cases c0

theorem keep_cell {W W' : World} (hk : Keep (fun _ => False) W W') {b : Nat} (hb : b < W.heap.size) (off : Nat) : W'.cell? ⟨b, off, none⟩ = W.cell? ⟨b, off, none⟩ := by
  unfold World.cell?
  rw [hk.block b hb id]
theorem keep_kept {W W' : World} (hk : Keep (fun _ => False) W W') (may : MemPlace → Prop) : W.keptBut W' may := by
  refine ⟨hk.os, hk.output, fun i hi => ?_⟩
  rw [hk.block i hi id]
  cases W.heap[i]? with
  | none => rfl
  | some o => cases o <;> simp

theorem trodAll_stay {T : TypeId → Prop} (K : Kids P T) (hsz : ∀ {t e : TypeId}, T t → P.underlying t = some (.slice e) → 0 < P.cellsOf e) {W W' : World} (hk : Keep (fun _ => False) W W') {sp : Nat → Bool} :
    ∀ (ts : List TypeId) (vs : List Value) (ds : List (DataW H)) (ps : List MemPlace), (∀ t, t ∈ ts → T t) → DataW.TrodAll enc P W 0 (fun _ => true) true ts vs ds ps → (∀ p ∈ ps, p.block < W.heap.size ∧ sp p.block = true) → DataW.TrodAll enc P W' 0 sp true ts vs ds ps := by
  intro ts
  induction ts with
  | nil =>
    intro vs ds ps _ h _
    obtain ⟨rfl, rfl, rfl⟩ := trodAll_nil h
    exact trodAll_mk0
  | cons t ts ih =>
    intro vs ds ps hT h hp
    obtain ⟨v, vs', d, ds', p, q, rfl, rfl, rfl, ⟨fuel, h1⟩, h2⟩ := trodAll_cons h
    refine ⟨p, q, ⟨fuel, DataW.trod_stays K hsz (fun h => by cases h) (hT t (.head _)) h1 (fun x hx => ?_) fun x hx => (hp x (List.mem_append_left _ hx)).2⟩, ih vs' ds' q (fun t h => hT t (.tail _ h)) h2 fun x hx => hp x (List.mem_append_right _ hx), rfl⟩
    have hb := (hp x (List.mem_append_left _ hx)).1
    cases x with
    | cell b off => exact keep_cell hk hb off
    | map b => exact hk.block b hb id

/-- A law that answers true and has turned nothing that was there. -/
theorem law_post {T : TypeId → Prop} (K : Kids P T) (hsz : ∀ {t e : TypeId}, T t → P.underlying t = some (.slice e) → 0 < P.cellsOf e) {f : Func} {s : ChangeSpec} {W W' : World} {args : Array Value} {ds gs : List (DataW H)} {before : List MemPlace} {bt : TypeId}
    (hW : DataW.Whole enc P f.params.toList s.vars false W args.toList ds gs before) (hv : s.vars = []) (hT : ∀ t, t ∈ f.params.toList → T t) (hr : f.resultTypes = #[bt]) (hbt : P.underlying bt = some .bool)
    (hfn : ∀ ds : List (DataW H), ds.length = f.params.size → s.fn H ds = { results := [.lit (.bool true)], args := ds }) (hlen : args.size = f.params.size) (hk : Keep (fun _ => False) W W') : s.post enc P f false true false false W args (.bool true) W' := by
  have hW' := hW
  obtain ⟨p, q, hA, hV, rfl, hfz, hnd⟩ := hW
  rw [hv] at hV
  obtain ⟨rfl, rfl⟩ := trodVars_none hV
  have hdl : ∀ (ts : List TypeId) (vs : List Value) (ds : List (DataW H)) (ps : List MemPlace), DataW.TrodAll enc P W 0 (fun _ => true) true ts vs ds ps → ds.length = ts.length := by
    intro ts
    induction ts with
    | nil => intro vs ds ps h; obtain ⟨_, rfl, _⟩ := trodAll_nil h; rfl
    | cons t ts ih =>
      intro vs ds ps h
      obtain ⟨v, vs', d, ds', p, q, _, rfl, _, _, h2⟩ := trodAll_cons h
      simp [ih _ _ _ h2]
  have hfn' := hfn ds (by simpa using hdl _ _ _ _ hA)
  refine ⟨ds, [], p ++ [], [], p, [], hW', ?_, ?_, ?_, keep_kept hk _, fun h => by cases h⟩
  · rw [List.append_nil, hfn', hr]
    exact trodAll_cons_mk (p := []) (p' := []) (shut_bool hbt true) trodAll_mk0
  · rw [List.append_nil, hfn']
    exact trodAll_stay K hsz hk _ _ _ _ hT hA fun x hx => by
      have := hW'.lt x (by simpa using hx)
      exact ⟨this, by simpa using this⟩
  · rw [hv, List.append_nil, hfn']
    rfl
end
end Go.Proofs.Ytbclejclkicgnaa.K
