/- Towards the card: FnDyadics answers true for every list of bytes that is handed to it, and leaves it as it was: the row's statement and the card, without a condition beside the row's own (the listed variable holds what the program's text lays). -/
import Derived.Test.YtbllgmcpebifhaaGreatDoorCards
import Derived.Test.YtbllgmcpebifhaaGreatDoorTie
import Derived.Test.YtbllgmcpebifhaaGreatDoorZVw
import Derived.Test.YtbllgmcpebifhaaGreatDoorZKg
import Derived.LaidSub
import Derived.LaidMore
import Derived.Lay
import Derived.Stop.LaidErr
import Derived.Shelf.Vars
namespace Go.Proofs.YtbllgmcpebifhaaGreatDoor.fnDyadics
open Go Go.ChangeShapes Go.WideShapes Go.ChangeAt Go.RowKit Go.Proofs.YtbllgmcpebifhaaGreatDoor.K
set_option linter.all false

theorem own : ownKnob Tryz.prog.godebug = none := by kernel_rfl
def isKept (t : TypeId) : Prop := t = 22 ∨ t = 5
theorem kids : Kids Tryz.prog isKept := {
  pointer := by
    rintro t e (rfl | rfl) h
    · rw [Tryz.underlying22] at h; cases h
    · rw [Tryz.underlying5] at h; cases h
  slice := by
    rintro t e (rfl | rfl) h
    · rw [Tryz.underlying22] at h; cases h; exact .inr rfl
    · rw [Tryz.underlying5] at h; cases h
  array := by
    rintro t e n (rfl | rfl) h
    · rw [Tryz.underlying22] at h; cases h
    · rw [Tryz.underlying5] at h; cases h
  struct := by
    rintro t fs (rfl | rfl) h
    · rw [Tryz.underlying22] at h; cases h
    · rw [Tryz.underlying5] at h; cases h
  map := by
    rintro t k e (rfl | rfl) h
    · rw [Tryz.underlying22] at h; cases h
    · rw [Tryz.underlying5] at h; cases h }
theorem sized {t e : TypeId} (ht : isKept t) (h : Tryz.prog.underlying t = some (.slice e)) : 0 < Tryz.prog.cellsOf e := by
  have := kids.slice ht h
  rcases this with rfl | rfl
  · rw [show Tryz.prog.cellsOf 22 = 1 by kernel_rfl]; decide
  · rw [show Tryz.prog.cellsOf 5 = 1 by kernel_rfl]; decide
theorem at_false {w : World} {α : Type} {s : Nat} {R : Rep α} {v : Value} {l : List α} (h : ListAt s R v l w (fun _ => False)) : ListAt s R v l w (fun x => False ∨ keys [] x) :=
  h.stable ⟨Nat.le_refl _, fun _ _ _ => rfl, fun x _ hx => hx.elim id (keys_nil x)⟩

/-- A slice of numbers that is read is a list of numbers of its kind. -/
theorem readIntsW {H : Type} {enc : TypeId × Value → H} {P : Program} {w : World} {base : Nat} {held : Bool} {t e : TypeId} {k : IntKind} {fuel : Nat} {v : Value} {x : DataW H × List MemPlace} (ht : P.underlying t = some (.slice e)) (he : P.underlying e = some (.int k)) (hc : P.cellsOf e = 1)
    (h : DataW.trod enc P w base (fun _ => true) held fuel t [v] = some x) : ∃ l, ListAt 1 (rInt k) v l w (fun _ => False) ∧ ∀ y ∈ l, (Lit.int k y).wf = true := by
  rcases open_ints ht he hc h with ⟨h1, _⟩ | ⟨a, len, cap, zs, h1, _, h3, h4, h5, _, h7, hwf⟩
  · injection h1 with h1
    exact ⟨[], .inl ⟨⟨none, h1⟩, rfl⟩, fun _ h => by cases h⟩
  · injection h1 with h1
    have hz : zs.length = cap := by simpa using h5
    by_cases h0 : cap = 0
    · have hl : len = 0 := by omega
      subst hl; subst h0
      exact ⟨[], .inl ⟨⟨some a, h1⟩, rfl⟩, fun _ h => by cases h⟩
    · obtain ⟨b, o, sp⟩ := a
      have c0 := h7 0 (by omega)
      have e0 : (⟨b, o, sp⟩ : Addr).add 0 = ⟨b, o, sp⟩ := by simp [Addr.add]
      rw [e0] at c0
      unfold World.cell? at c0
      split at c0
      · rename_i c t' fr hh
        have hh : w.heap[b]? = some (.cells c t' fr) := hh
        split at c0
        · cases c0
        · rename_i hsp
          have hsp : sp = none := by simpa using hsp
          subst hsp
          have hcell : ∀ i, i < zs.length → c[o + i]? = some (.int k (zs.getD i 0)) := fun i hi => by
            have := h7 i hi
            rw [add_at] at this
            rwa [cell_of_row w b (o + i) c t' fr hh] at this
          have hlen : (zs.take len).length = len := by simp; omega
          refine ⟨zs.take len, .inr ⟨b, o, cap, c, t', fr, by rw [hlen]; exact h1, by omega, h4, hh, id, ?_, fun i y hy => ?_⟩, fun y hy => hwf y (List.mem_of_mem_take hy)⟩
          · have := hcell (cap - 1) (by omega)
            have := (Array.getElem?_eq_some_iff.1 this).1
            omega
          · have hi : i < len := by have := (List.getElem?_eq_some_iff.1 hy).1; omega
            have h8 := hcell i (by omega)
            obtain ⟨h9, h10⟩ := Array.getElem?_eq_some_iff.1 h8
            have hz2 : zs.getD i 0 = y := by
              rw [List.getElem?_take, if_pos hi] at hy
              rw [List.getD_eq_getElem?_getD, hy]; rfl
            show (c.toList.drop (o + i * 1)).take 1 = [.int k y]
            rw [Nat.mul_one, List.drop_eq_getElem_cons (by simpa using h9)]
            rw [hz2] at h10
            simp [h10]
      · cases c0
theorem bytes_wf {l : List Int} (h : ∀ y ∈ l, (Lit.int .u8 y).wf = true) : Bytes l := by
  intro y hy
  have := h y hy
  have e1 : IntKind.u8.min = 0 := by decide
  have e2 : IntKind.u8.max = 255 := by decide
  simp only [Lit.wf, Bool.and_eq_true, decide_eq_true_eq, e1, e2] at this
  omega

theorem gTz : Tryz.prog.globalNamed "math/bits.deBruijn32tab" = some 1 := by kernel_rfl
def tzTab : List Int := [0, 1, 28, 2, 29, 14, 24, 3, 30, 22, 20, 15, 25, 17, 4, 8, 31, 27, 13, 23, 21, 19, 16, 7, 26, 12, 18, 6, 11, 5, 10, 9]
/-- What the row's list gives: the table of the lowest bits. -/
theorem tableTz {W : World} (h : laidMetH Tryz.prog Rows.fnDyadicsRow.laid W) : Go.Lib.TabIs Tryz.prog W "math/bits.deBruijn32tab" .u8 tzTab := by
  have h1 := h.filter (fun x => x.1 == "math/bits.deBruijn32tab")
  exact Go.Lib.tabIs_of_head (rest := []) (t := 258) (e := 5) (n := 32) gTz (by kernel_rfl) Tryz.underlying258 Tryz.underlying5 (by kernel_rfl) (by kernel_rfl) h1
theorem cellsTz {W : World} (h : laidMetH Tryz.prog Rows.fnDyadicsRow.laid W) : ∀ j, j < 32 → W.cell? ⟨1, j, none⟩ = some (.int .u8 ((Go.Lib.deBruijn32tab.getD j 0 : Nat) : Int)) := by
  intro j hj
  have h1 := World.var?_cell gTz (tableTz h) j
  rw [h1]
  have h2 : ∀ j, j < 32 → (tzTab.map fun z => Value.int .u8 z)[j]? = some (.int .u8 ((Go.Lib.deBruijn32tab.getD j 0 : Nat) : Int)) := by
    intro j hj
    have h3 : tzTab = Go.Lib.deBruijn32tab.map fun n => ((n : Nat) : Int) := by decide +kernel
    have h4 : j < Go.Lib.deBruijn32tab.length := hj
    rw [h3, List.map_map, List.getElem?_map, List.getElem?_eq_getElem h4, List.getD_eq_getElem?_getD, List.getElem?_eq_getElem h4]
    rfl
  simpa using h2 j hj
theorem gTab : Tryz.prog.globalNamed "internal/strconv.uint64pow10" = some 5 := by kernel_rfl
theorem gRng : Tryz.prog.globalNamed "strconv.ErrRange" = some 4 := by kernel_rfl
theorem gSyn : Tryz.prog.globalNamed "strconv.ErrSyntax" = some 3 := by kernel_rfl

/-- What the row's list gives: the table of powers of ten. -/
theorem table {W : World} (h : laidMetH Tryz.prog Rows.fnDyadicsRow.laid W) : Go.Lib.TabIs Tryz.prog W "internal/strconv.uint64pow10" .u64 Go.Lib.pow10Tab := by
  have h1 := h.filter (fun x => x.1 == "internal/strconv.uint64pow10")
  exact Go.Lib.tabIs_of_head (rest := []) (t := 285) (e := 164) (n := 20) gTab (by kernel_rfl) Tryz.underlying285 Tryz.underlying164 (by kernel_rfl) (by kernel_rfl) h1
theorem star : "*" ++ "errors.errorString" = "*errors.errorString" := by decide
/-- The one row of that name. -/
theorem rowErr (u : TypeId) (h : Tryz.prog.typeName? 3 u = some "*errors.errorString") : u = 281 :=
  typeName_ptr_named (nm := "errors.errorString") (by rw [star]; kernel_rfl) (by kernel_rfl) (by decide) u (by rw [star]; exact h)
theorem errRng {W : World} (h : laidMetH Tryz.prog Rows.fnDyadicsRow.laid W) : ∃ te pe, W.cell? ⟨4, 0, none⟩ = some (.iface te pe) := by
  have h1 := h.filter (fun x => x.1 == "strconv.ErrRange")
  obtain ⟨a, s, hv, _, _, _⟩ := laid_sentinel (r := []) h1 gRng (by kernel_rfl) Tryz.underlying137 rowErr Tryz.underlying281 Tryz.underlying283 rfl rfl Tryz.underlying9 (by kernel_rfl) (by kernel_rfl)
  exact ⟨_, _, by have := World.var?_cell gRng hv 0; simpa using this⟩
theorem errSyn {W : World} (h : laidMetH Tryz.prog Rows.fnDyadicsRow.laid W) : ∃ te pe, W.cell? ⟨3, 0, none⟩ = some (.iface te pe) := by
  have h1 := h.filter (fun x => x.1 == "strconv.ErrSyntax")
  obtain ⟨a, s, hv, _, _, _⟩ := laid_sentinel (r := []) h1 gSyn (by kernel_rfl) Tryz.underlying137 rowErr Tryz.underlying281 Tryz.underlying283 rfl rfl Tryz.underlying9 (by kernel_rfl) (by kernel_rfl)
  exact ⟨_, _, by have := World.var?_cell gSyn hv 0; simpa using this⟩
theorem lt_of_cell {W : World} {g : Nat} {v : Value} (h : W.cell? ⟨g, 0, none⟩ = some v) : g < W.heap.size := by
  rcases Nat.lt_or_ge g W.heap.size with hlt | hge
  · exact hlt
  · unfold World.cell? at h
    simp only [Array.getElem?_eq_none hge] at h
    cases h

set_option maxRecDepth 60000 in
/-- For every argument. -/
theorem contract (H : Type) (enc : TypeId × Value → H) (W : World) (base : Nat) (args : Array Value) (ds gs : List (DataW H)) (before : List MemPlace)
    (hval : ∀ (j : Nat) t v, Tryz.f4.params[j]? = some t → args[j]? = some v → Value.okWide Tryz.prog W .any base t v)
    (hW : DataW.Whole enc Tryz.prog Tryz.f4.params.toList Rows.fnDyadicsSpec.vars false W args.toList ds gs before) (hL : laidMetH Tryz.prog Rows.fnDyadicsRow.laid W) (hS : W.ShapedOpen Tryz.prog) :
    Calls Tryz.prog 4 args W fun e W' => ∃ v, e = .returned v ∧ Rows.fnDyadicsSpec.post enc Tryz.prog Tryz.f4 false true false false W args v W' := by
  have hW' := hW
  obtain ⟨p, q, hA0, hV, rfl, hfz, hnd⟩ := hW
  have hA : DataW.TrodAll enc Tryz.prog W 0 (fun _ => true) true Tryz.f4.params.toList args.toList ds p := hA0
  rw [Tryz.params4] at hA hval
  obtain ⟨v0, d0, rfl, rfl, ht0⟩ := trodAll_one hA
  have hv : Value.okWide Tryz.prog W .any base 22 v0 := hval 0 22 v0 rfl rfl
  obtain ⟨a0, len0, cap0, rfl⟩ := okWide_slice Tryz.underlying22 hv
  obtain ⟨fuel, h1⟩ := ht0
  have k1 : Tryz.prog.cellsOf 5 = 1 := by kernel_rfl
  have h1 : DataW.trod enc Tryz.prog W 0 (fun _ => true) true fuel 22 [.slice a0 len0 cap0] = _ := h1
  obtain ⟨l, hl, hwf⟩ := readIntsW Tryz.underlying22 Tryz.underlying5 k1 h1
  have hT := table hL
  have hZ := cellsTz hL
  obtain ⟨te, pe, hR⟩ := errRng hL
  obtain ⟨te2, pe2, hY⟩ := errSyn hL
  obtain ⟨m, hM⟩ := cell_of_shapedOpen_int (P := Tryz.prog) (g := 2) (t := 3) (zero := #[.int .i64 0]) hS (of_decide_eq_true (by kernel_rfl)) (by kernel_rfl) rfl (by kernel_rfl) (by kernel_rfl) Tryz.underlying3
  have hg : 5 < W.heap.size := by
    have h := hT
    unfold Go.Lib.TabIs World.var? at h
    rw [gTab] at h
    rcases Nat.lt_or_ge 5 W.heap.size with hlt | hge
    · exact hlt
    · simp only [Option.bind_some] at h
      rw [Array.getElem?_eq_none hge] at h
      cases h
  refine ((FnDyadics_spec _ l (bytes_wf hwf)).2 W (fun _ => False) (fun _ h => h.elim) ⟨fun o h => (by cases h), trivial⟩ ?_).mono ?_
  · intro φ hφ
    simp only [List.mem_cons, List.not_mem_nil, or_false] at hφ
    rcases hφ with rfl | rfl | rfl | rfl | rfl | rfl
    · exact at_false hl
    · exact ⟨hZ, lt_of_cell (hZ 0 (by omega)), fun hx => hx.elim id (keys_nil _)⟩
    · refine ⟨hT, fun g h => ?_⟩
      obtain rfl := Option.some.inj (gTab.symm.trans h)
      exact ⟨hg, fun hx => hx.elim id (keys_nil _)⟩
    · exact ⟨⟨_, hM, m, rfl⟩, lt_of_cell hM, fun hx => hx.elim id (keys_nil _)⟩
    · exact ⟨⟨_, hY, .inr ⟨_, _, rfl⟩⟩, lt_of_cell hY, fun hx => hx.elim id (keys_nil _)⟩
    · exact ⟨⟨_, hR, .inr ⟨_, _, rfl⟩⟩, lt_of_cell hR, fun hx => hx.elim id (keys_nil _)⟩
  · rintro en W' ⟨v, L', F', rfl, ⟨rfl, rfl, rfl⟩, hkeep, _, _, _⟩
    have hk : Keep (fun _ => False) W W' := ⟨hkeep.os, hkeep.tape, hkeep.output, hkeep.size, fun x hx _ => hkeep.block x hx (keys_nil x)⟩
    refine ⟨_, rfl, law_post kids sized hW' rfl (fun t ht => ?_) rfl Tryz.underlying4 (fun ds hds => ?_) (by rw [Tryz.params4]; rfl) hk⟩
    · rw [Tryz.params4] at ht
      simp at ht
      exact .inl ht
    · rw [Tryz.params4] at hds
      match ds, hds with
      | [d], _ => rfl

/-- A world for the witness: the settled one. -/
noncomputable def laidWorld (os : Os) : World := World.laidAll Tryz.prog os Rows.fnDyadicsRow.laid
abbrev arg0 : Value := .slice none 0 0
theorem laid_met (os : Os) : laidMet Tryz.prog Rows.fnDyadicsRow.laid ((laidWorld os).forCall (fun _ _ => 0) ⟨#[], #[arg0], []⟩).memory :=
  laidMet_laidAll #[arg0] (by kernel_rfl) (by kernel_rfl)
theorem reads (os : Os) {H : Type} (enc : TypeId × Value → H) : ∃ places, DataW.whole enc Tryz.prog ((laidWorld os).forCall (fun _ _ => 0) ⟨#[], #[arg0], []⟩).memory Tryz.f4.params.toList Rows.fnDyadicsSpec.vars false #[arg0].toList 8 = some ([.nil], [], places) :=
  ⟨[], by kernel_rfl⟩

noncomputable abbrev laidCall (os : Os) : World := (laidWorld os).forCall (fun _ _ => 0) ⟨#[], #[arg0], []⟩
theorem w1 (os : Os) : (laidCall os).variablesZipB Tryz.prog = true := by kernel_rfl
theorem w2 (os : Os) : ((laidCall os).heap.toList.drop Tryz.prog.globals.size).take ((begin Tryz.prog (fun _ _ => 0) default).world.heap.size - Tryz.prog.globals.size) = (begin Tryz.prog (fun _ _ => 0) default).world.heap.toList.drop Tryz.prog.globals.size := by kernel_rfl
theorem w3 (os : Os) : Input.okWideB Tryz.prog (laidCall os) 4 ⟨#[], #[arg0], []⟩ = true := by kernel_rfl
theorem w4 (os : Os) {H : Type} (enc : TypeId × Value → H) : (OpenSpec.ofChange Rows.fnDyadicsSpec).bare.sizedB enc Tryz.prog Tryz.f4 false (laidCall os).memory #[arg0] 8 = true := by kernel_rfl
theorem w5 (os : Os) {H : Type} (enc : TypeId × Value → H) : (OpenSpec.ofChange Rows.fnDyadicsSpec).preRow enc Tryz.prog Tryz.f4 Rows.fnDyadicsRow.domain false Rows.fnDyadicsRow.laid (laidCall os).memory #[arg0] := by
  obtain ⟨places, hx⟩ := reads os enc
  exact OpenSpec.preRow_of_cond 8 hx rfl (fun k hk => by cases hk) (w4 os enc) (laid_met os)
set_option maxRecDepth 100000 in
/-- There is an input that fits. -/
theorem witness (os : Os) {H : Type} (enc : TypeId × Value → H) : ∃ (w : World) (tape : Tape) (i : Input), w.os = os ∧ (w.forCall tape i).Shaped Tryz.prog ∧ i.vars = [] ∧ Input.okWide Tryz.prog (w.forCall tape i) .any w.heap.size 4 i ∧
    (OpenSpec.ofChange Rows.fnDyadicsSpec).preRow enc Tryz.prog Tryz.f4 Rows.fnDyadicsRow.domain false Rows.fnDyadicsRow.laid (w.forCall tape i).memory i.args ∧
      ({} : Assume).holds Tryz.prog (lone (Frame.enter Tryz.prog 4 i.args .normal) [] (w.forCall tape i)) :=
  ⟨laidWorld os, fun _ _ => 0, ⟨#[], #[arg0], []⟩, World.laidAll_os _ _ _, World.shaped_of_ZipB (w1 os) (w2 os), (Input.okWide_of_okWideB (base := 0) (w3 os)).1, (Input.okWide_of_okWideB (w3 os)).2, w5 os enc, by
    simp only [Assume.holds]
    exact ⟨by simp, by simp, fun _ => Modest.zero, by simp, by simp⟩⟩

end Go.Proofs.YtbllgmcpebifhaaGreatDoor.fnDyadics
