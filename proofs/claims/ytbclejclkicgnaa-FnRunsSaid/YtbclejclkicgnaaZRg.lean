/- FnRuns answers true for every list of bytes that is handed to it, and leaves it as it was: the row's statement, without a condition beside the row's own. -/
import Derived.Test.YtbclejclkicgnaaRows
import Derived.Test.YtbclejclkicgnaaZRf
import Derived.Test.YtbclejclkicgnaaZKk
import Derived.LaidSub
import Derived.LaidMore
import Derived.Lay
import Derived.Shelf.Vars
namespace Go.Proofs.Ytbclejclkicgnaa.fnRuns
open Go Go.ChangeShapes Go.WideShapes Go.ChangeAt Go.RowKit Go.Proofs.Ytbclejclkicgnaa.K
set_option linter.all false

theorem own : ownKnob Try.prog.godebug = none := by kernel_rfl
def isKept (t : TypeId) : Prop := t = 22 ∨ t = 5
theorem kids : Kids Try.prog isKept := {
  pointer := by
    rintro t e (rfl | rfl) h
    · rw [Try.underlying22] at h; cases h
    · rw [Try.underlying5] at h; cases h
  slice := by
    rintro t e (rfl | rfl) h
    · rw [Try.underlying22] at h; cases h; exact .inr rfl
    · rw [Try.underlying5] at h; cases h
  array := by
    rintro t e n (rfl | rfl) h
    · rw [Try.underlying22] at h; cases h
    · rw [Try.underlying5] at h; cases h
  struct := by
    rintro t fs (rfl | rfl) h
    · rw [Try.underlying22] at h; cases h
    · rw [Try.underlying5] at h; cases h
  map := by
    rintro t k e (rfl | rfl) h
    · rw [Try.underlying22] at h; cases h
    · rw [Try.underlying5] at h; cases h }
theorem sized {t e : TypeId} (ht : isKept t) (h : Try.prog.underlying t = some (.slice e)) : 0 < Try.prog.cellsOf e := by
  have := kids.slice ht h
  rcases this with rfl | rfl
  · rw [show Try.prog.cellsOf 22 = 1 by kernel_rfl]; decide
  · rw [show Try.prog.cellsOf 5 = 1 by kernel_rfl]; decide
theorem at_false {w : World} {α : Type} {s : Nat} {R : Rep α} {v : Value} {l : List α} (h : ListAt s R v l w (fun _ => False)) : ListAt s R v l w (fun x => False ∨ keys [] x) :=
  h.stable ⟨Nat.le_refl _, fun _ _ _ => rfl, fun x _ hx => hx.elim id (keys_nil x)⟩

/-- A slice of numbers that is read is a list of numbers of its kind. -/
theorem readIntsW {H : Type} {enc : TypeId × Value → H} {P : Program} {w : World} {base : Nat} {held : Bool} {t e : TypeId} {k : IntKind} {fuel : Nat} {v : Value} {x : DataW H × List MemPlace} (ht : P.underlying t = some (.slice e)) (he : P.underlying e = some (.int k)) (hc : P.cellsOf e = 1)
    (h : DataW.trod enc P w base (fun _ => true) held fuel t [v] = some x) : ∃ l, ListAt 1 (rInt k) v l w (fun _ => False) ∧ ∀ y ∈ l, (Lit.int k y).wf = true := by
  rcases open_ints ht he hc h with ⟨h1, _⟩ | ⟨a, len, cap, zs, h1, _, h3, h4, h5, _, h7, hwf⟩
  · injection h1 with h1
    exact ⟨[], .inl ⟨⟨none, h1⟩, rfl⟩, fun _ h => by cases h⟩
  · injection h1 with h1
    have hz : zs.length = cap := by simpa using h5
    by_cases h0 : cap = 0
    · have hl : len = 0 := by omega
      subst hl; subst h0
      exact ⟨[], .inl ⟨⟨some a, h1⟩, rfl⟩, fun _ h => by cases h⟩
    · obtain ⟨b, o, sp⟩ := a
      have c0 := h7 0 (by omega)
      have e0 : (⟨b, o, sp⟩ : Addr).add 0 = ⟨b, o, sp⟩ := by simp [Addr.add]
      rw [e0] at c0
      unfold World.cell? at c0
      split at c0
      · rename_i c t' fr hh
        have hh : w.heap[b]? = some (.cells c t' fr) := hh
        split at c0
        · cases c0
        · rename_i hsp
          have hsp : sp = none := by simpa using hsp
          subst hsp
          have hcell : ∀ i, i < zs.length → c[o + i]? = some (.int k (zs.getD i 0)) := fun i hi => by
            have := h7 i hi
            rw [add_at] at this
            rwa [cell_of_row w b (o + i) c t' fr hh] at this
          have hlen : (zs.take len).length = len := by simp; omega
          refine ⟨zs.take len, .inr ⟨b, o, cap, c, t', fr, by rw [hlen]; exact h1, by omega, h4, hh, id, ?_, fun i y hy => ?_⟩, fun y hy => hwf y (List.mem_of_mem_take hy)⟩
          · have := hcell (cap - 1) (by omega)
            have := (Array.getElem?_eq_some_iff.1 this).1
            omega
          · have hi : i < len := by have := (List.getElem?_eq_some_iff.1 hy).1; omega
            have h8 := hcell i (by omega)
            obtain ⟨h9, h10⟩ := Array.getElem?_eq_some_iff.1 h8
            have hz2 : zs.getD i 0 = y := by
              rw [List.getElem?_take, if_pos hi] at hy
              rw [List.getD_eq_getElem?_getD, hy]; rfl
            show (c.toList.drop (o + i * 1)).take 1 = [.int k y]
            rw [Nat.mul_one, List.drop_eq_getElem_cons (by simpa using h9)]
            rw [hz2] at h10
            simp [h10]
      · cases c0
theorem bytes_wf {l : List Int} (h : ∀ y ∈ l, (Lit.int .u8 y).wf = true) : Bytes l := by
  intro y hy
  have := h y hy
  have e1 : IntKind.u8.min = 0 := by decide
  have e2 : IntKind.u8.max = 255 := by decide
  simp only [Lit.wf, Bool.and_eq_true, decide_eq_true_eq, e1, e2] at this
  omega

set_option maxRecDepth 60000 in
/-- For every argument. -/
theorem contract (H : Type) (enc : TypeId × Value → H) (W : World) (base : Nat) (args : Array Value) (ds gs : List (DataW H)) (before : List MemPlace)
    (hval : ∀ (j : Nat) t v, Try.f3.params[j]? = some t → args[j]? = some v → Value.okWide Try.prog W .any base t v)
    (hW : DataW.Whole enc Try.prog Try.f3.params.toList Rows.fnRunsSpec.vars false W args.toList ds gs before) :
    Calls Try.prog 3 args W fun e W' => ∃ v, e = .returned v ∧ Rows.fnRunsSpec.post enc Try.prog Try.f3 false true false false W args v W' := by
  have hW' := hW
  obtain ⟨p, q, hA0, hV, rfl, hfz, hnd⟩ := hW
  have hA : DataW.TrodAll enc Try.prog W 0 (fun _ => true) true Try.f3.params.toList args.toList ds p := hA0
  rw [Try.params3] at hA hval
  obtain ⟨v0, d0, rfl, rfl, ht0⟩ := trodAll_one hA
  have hv : Value.okWide Try.prog W .any base 22 v0 := hval 0 22 v0 rfl rfl
  obtain ⟨a0, len0, cap0, rfl⟩ := okWide_slice Try.underlying22 hv
  obtain ⟨fuel, h1⟩ := ht0
  have k1 : Try.prog.cellsOf 5 = 1 := by kernel_rfl
  have h1 : DataW.trod enc Try.prog W 0 (fun _ => true) true fuel 22 [.slice a0 len0 cap0] = _ := h1
  obtain ⟨l, hl, hwf⟩ := readIntsW Try.underlying22 Try.underlying5 k1 h1
  refine ((FnRuns_spec _ l (bytes_wf hwf)).2 W (fun _ => False) (fun _ h => h.elim) ⟨fun o h => (by cases h), trivial⟩ ?_).mono ?_
  · intro φ hφ
    simp only [List.mem_cons, List.not_mem_nil, or_false] at hφ
    subst hφ
    exact at_false hl
  · rintro en W' ⟨v, L', F', rfl, ⟨rfl, rfl, rfl⟩, hkeep, _, _, _⟩
    have hk : Keep (fun _ => False) W W' := ⟨hkeep.os, hkeep.tape, hkeep.output, hkeep.size, fun x hx _ => hkeep.block x hx (keys_nil x)⟩
    refine ⟨_, rfl, law_post kids sized hW' rfl (fun t ht => ?_) rfl Try.underlying4 (fun ds hds => ?_) (by rw [Try.params3]; rfl) hk⟩
    · rw [Try.params3] at ht
      simp at ht
      exact .inl ht
    · rw [Try.params3] at hds
      match ds, hds with
      | [d], _ => rfl

/-- A world for the witness: the settled one. -/
noncomputable def laidWorld (os : Os) : World := World.laidAll Try.prog os Rows.fnRunsRow.laid
abbrev arg0 : Value := .slice none 0 0
theorem laid_met (os : Os) : laidMet Try.prog Rows.fnRunsRow.laid ((laidWorld os).forCall (fun _ _ => 0) ⟨#[], #[arg0], []⟩).memory :=
  laidMet_laidAll #[arg0] (by kernel_rfl) (by kernel_rfl)
theorem reads (os : Os) {H : Type} (enc : TypeId × Value → H) : ∃ places, DataW.whole enc Try.prog ((laidWorld os).forCall (fun _ _ => 0) ⟨#[], #[arg0], []⟩).memory Try.f3.params.toList Rows.fnRunsSpec.vars false #[arg0].toList 8 = some ([.nil], [], places) :=
  ⟨[], by kernel_rfl⟩

noncomputable abbrev laidCall (os : Os) : World := (laidWorld os).forCall (fun _ _ => 0) ⟨#[], #[arg0], []⟩
theorem w1 (os : Os) : (laidCall os).variablesZipB Try.prog = true := by kernel_rfl
theorem w2 (os : Os) : ((laidCall os).heap.toList.drop Try.prog.globals.size).take ((begin Try.prog (fun _ _ => 0) default).world.heap.size - Try.prog.globals.size) = (begin Try.prog (fun _ _ => 0) default).world.heap.toList.drop Try.prog.globals.size := by kernel_rfl
theorem w3 (os : Os) : Input.okWideB Try.prog (laidCall os) 3 ⟨#[], #[arg0], []⟩ = true := by kernel_rfl
theorem w4 (os : Os) {H : Type} (enc : TypeId × Value → H) : (OpenSpec.ofChange Rows.fnRunsSpec).bare.sizedB enc Try.prog Try.f3 false (laidCall os).memory #[arg0] 8 = true := by kernel_rfl
theorem w5 (os : Os) {H : Type} (enc : TypeId × Value → H) : (OpenSpec.ofChange Rows.fnRunsSpec).preRow enc Try.prog Try.f3 Rows.fnRunsRow.domain false Rows.fnRunsRow.laid (laidCall os).memory #[arg0] := by
  obtain ⟨places, hx⟩ := reads os enc
  exact OpenSpec.preRow_of_cond 8 hx rfl (fun k hk => by cases hk) (w4 os enc) (laid_met os)
set_option maxRecDepth 100000 in
/-- There is an input that fits. -/
theorem witness (os : Os) {H : Type} (enc : TypeId × Value → H) : ∃ (w : World) (tape : Tape) (i : Input), w.os = os ∧ (w.forCall tape i).Shaped Try.prog ∧ i.vars = [] ∧ Input.okWide Try.prog (w.forCall tape i) .any w.heap.size 3 i ∧
    (OpenSpec.ofChange Rows.fnRunsSpec).preRow enc Try.prog Try.f3 Rows.fnRunsRow.domain false Rows.fnRunsRow.laid (w.forCall tape i).memory i.args ∧
      ({} : Assume).holds Try.prog (lone (Frame.enter Try.prog 3 i.args .normal) [] (w.forCall tape i)) :=
  ⟨laidWorld os, fun _ _ => 0, ⟨#[], #[arg0], []⟩, World.laidAll_os _ _ _, World.shaped_of_ZipB (w1 os) (w2 os), (Input.okWide_of_okWideB (base := 0) (w3 os)).1, (Input.okWide_of_okWideB (w3 os)).2, w5 os enc, by
    simp only [Assume.holds]
    exact ⟨by simp, by simp, fun _ => Modest.zero, by simp, by simp⟩⟩

set_option maxRecDepth 100000 in
theorem lifted (os : Os) (started : os.Started) (H : Type) (enc : TypeId × Value → H) (F : Stop.Interp) :
    ReturnsInHanded {} Try.checked os 3 .any ((OpenSpec.ofChange Rows.fnRunsSpec).preRow enc Try.prog Try.f3 Rows.fnRunsRow.domain false Rows.fnRunsRow.laid) (((OpenSpec.ofChange Rows.fnRunsSpec).at F).post enc Try.prog Try.f3 false true false false) := by
  refine returnsInHanded_of_row (C := Try.checked) (s := OpenSpec.ofChange Rows.fnRunsSpec) own started (by kernel_rfl) Try.func3 (witness os enc) ?_
  intro W base args ds gs before hval hW _ _ _ hL hS _
  exact contract H enc W base args ds gs before hval hW

theorem s1 : Try.pinned.checked.prog.funcNamed "loop.example/g01156/laws.FnRuns" = some 3 := by kernel_rfl
set_option maxHeartbeats 8000000 in
theorem s2 : joinedFacts Try.pinned.checked.prog 3 Try.f3 (OpenSpec.ofChange Rows.fnRunsSpec).bare Rows.fnRunsRow = true := by
  unfold joinedFacts
  simp only [Bool.and_eq_true]
  repeat' apply And.intro
  all_goals as_aux_lemma => kernel_rfl
theorem s3 : Try.f3.isInstance Try.pinned.checked.prog Rows.fnRunsRow.origin Rows.fnRunsRow.targs := of_decide_eq_true (by kernel_rfl)
theorem s4 : Try.f3.isWrapper Try.pinned.checked.prog Rows.fnRunsRow.wrapper Rows.fnRunsRow.mainSum := by
  unfold Func.isWrapper; first | (rw [if_pos (by decide +kernel)]; kernel_rfl) | (rw [if_neg (by decide +kernel)]; exact ⟨rfl, rfl⟩)
/-- The row's statement. -/
theorem said : Rows.FnRunsSaid :=
  OpenClaim.holds_of_cond 3 Try.f3 rfl rfl rfl rfl rfl rfl rfl ⟨rfl, rfl, rfl, rfl, rfl⟩ rfl rfl rfl rfl rfl s1 Try.func3 s2
    s3 s4
    (fun os started H enc _ F => by rw [OpenClaim.pre_eq_preRow]; exact lifted os started H enc F)
end Go.Proofs.Ytbclejclkicgnaa.fnRuns
