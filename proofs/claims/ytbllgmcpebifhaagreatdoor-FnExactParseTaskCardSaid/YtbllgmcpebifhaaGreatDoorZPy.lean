/- Towards the card: FnExactParseTask answers true for every text that is handed to it: the row's statement and the card, without a condition beside the row's own (the listed variables hold what the program's text lays). -/
import Derived.Test.YtbllgmcpebifhaaGreatDoorCards
import Derived.Test.YtbllgmcpebifhaaGreatDoorTie
import Derived.Test.YtbllgmcpebifhaaGreatDoorZPj
import Derived.Test.YtbllgmcpebifhaaGreatDoorZKk
import Derived.LaidSub
import Derived.LaidMore
import Derived.Lay
import Derived.Stop.LaidErr
import Derived.Shelf.Vars
namespace Go.Proofs.YtbllgmcpebifhaaGreatDoor.fnParseTask
open Go.ChangeShapes Go.WideShapes Go.ChangeAt Go.RowKit Go.Proofs.YtbllgmcpebifhaaGreatDoor.K
set_option linter.all false

theorem own : ownKnob Tryz.prog.godebug = none := by kernel_rfl
theorem gTab : Tryz.prog.globalNamed "internal/strconv.uint64pow10" = some 5 := by kernel_rfl
theorem gRng : Tryz.prog.globalNamed "strconv.ErrRange" = some 4 := by kernel_rfl
theorem gSyn : Tryz.prog.globalNamed "strconv.ErrSyntax" = some 3 := by kernel_rfl

def isKept (t : TypeId) : Prop := t = 9
theorem kids : Kids Tryz.prog isKept := {
  pointer := by rintro t e rfl h; rw [Tryz.underlying9] at h; cases h
  slice := by rintro t e rfl h; rw [Tryz.underlying9] at h; cases h
  array := by rintro t e n rfl h; rw [Tryz.underlying9] at h; cases h
  struct := by rintro t fs rfl h; rw [Tryz.underlying9] at h; cases h
  map := by rintro t k e rfl h; rw [Tryz.underlying9] at h; cases h }
theorem sized {t e : TypeId} (ht : isKept t) (h : Tryz.prog.underlying t = some (.slice e)) : 0 < Tryz.prog.cellsOf e := by
  obtain rfl := ht
  rw [Tryz.underlying9] at h; cases h

/-- What the row's list gives: the table of powers of ten. -/
theorem table {W : World} (h : laidMetH Tryz.prog Rows.fnExactParseTaskRow.laid W) : Lib.TabIs Tryz.prog W "internal/strconv.uint64pow10" .u64 Lib.pow10Tab := by
  have h1 := h.filter (fun x => x.1 == "internal/strconv.uint64pow10")
  exact Lib.tabIs_of_head (rest := []) (t := 285) (e := 164) (n := 20) gTab (by kernel_rfl) Tryz.underlying285 Tryz.underlying164 (by kernel_rfl) (by kernel_rfl) h1
theorem gTz : Tryz.prog.globalNamed "math/bits.deBruijn32tab" = some 1 := by kernel_rfl
def tzTab : List Int := [0, 1, 28, 2, 29, 14, 24, 3, 30, 22, 20, 15, 25, 17, 4, 8, 31, 27, 13, 23, 21, 19, 16, 7, 26, 12, 18, 6, 11, 5, 10, 9]
/-- What the row's list gives: the table of the lowest bits. -/
theorem tableTz {W : World} (h : laidMetH Tryz.prog Rows.fnExactParseTaskRow.laid W) : Lib.TabIs Tryz.prog W "math/bits.deBruijn32tab" .u8 tzTab := by
  have h1 := h.filter (fun x => x.1 == "math/bits.deBruijn32tab")
  exact Lib.tabIs_of_head (rest := []) (t := 258) (e := 5) (n := 32) gTz (by kernel_rfl) Tryz.underlying258 Tryz.underlying5 (by kernel_rfl) (by kernel_rfl) h1
theorem cellsTz {W : World} (h : laidMetH Tryz.prog Rows.fnExactParseTaskRow.laid W) : ∀ j, j < 32 → W.cell? ⟨1, j, none⟩ = some (.int .u8 ((Lib.deBruijn32tab.getD j 0 : Nat) : Int)) := by
  intro j hj
  have h1 := World.var?_cell gTz (tableTz h) j
  rw [h1]
  have h2 : ∀ j, j < 32 → (tzTab.map fun z => Value.int .u8 z)[j]? = some (.int .u8 ((Lib.deBruijn32tab.getD j 0 : Nat) : Int)) := by
    intro j hj
    have h3 : tzTab = Lib.deBruijn32tab.map fun n => ((n : Nat) : Int) := by decide +kernel
    have h4 : j < Lib.deBruijn32tab.length := hj
    rw [h3, List.map_map, List.getElem?_map, List.getElem?_eq_getElem h4, List.getD_eq_getElem?_getD, List.getElem?_eq_getElem h4]
    rfl
  simpa using h2 j hj
theorem star : "*" ++ "errors.errorString" = "*errors.errorString" := by decide
/-- The one row of that name. -/
theorem rowErr (u : TypeId) (h : Tryz.prog.typeName? 3 u = some "*errors.errorString") : u = 281 :=
  typeName_ptr_named (nm := "errors.errorString") (by rw [star]; kernel_rfl) (by kernel_rfl) (by decide) u (by rw [star]; exact h)
theorem errRng {W : World} (h : laidMetH Tryz.prog Rows.fnExactParseTaskRow.laid W) : ∃ te pe, W.cell? ⟨4, 0, none⟩ = some (.iface te pe) := by
  have h1 := h.filter (fun x => x.1 == "strconv.ErrRange")
  obtain ⟨a, s, hv, _, _, _⟩ := laid_sentinel (r := []) h1 gRng (by kernel_rfl) Tryz.underlying137 rowErr Tryz.underlying281 Tryz.underlying283 rfl rfl Tryz.underlying9 (by kernel_rfl) (by kernel_rfl)
  exact ⟨_, _, by have := World.var?_cell gRng hv 0; simpa using this⟩
theorem errSyn {W : World} (h : laidMetH Tryz.prog Rows.fnExactParseTaskRow.laid W) : ∃ te pe, W.cell? ⟨3, 0, none⟩ = some (.iface te pe) := by
  have h1 := h.filter (fun x => x.1 == "strconv.ErrSyntax")
  obtain ⟨a, s, hv, _, _, _⟩ := laid_sentinel (r := []) h1 gSyn (by kernel_rfl) Tryz.underlying137 rowErr Tryz.underlying281 Tryz.underlying283 rfl rfl Tryz.underlying9 (by kernel_rfl) (by kernel_rfl)
  exact ⟨_, _, by have := World.var?_cell gSyn hv 0; simpa using this⟩
theorem lt_of_cell {W : World} {g : Nat} {v : Value} (h : W.cell? ⟨g, 0, none⟩ = some v) : g < W.heap.size := by
  rcases Nat.lt_or_ge g W.heap.size with hlt | hge
  · exact hlt
  · unfold World.cell? at h
    simp only [Array.getElem?_eq_none hge] at h
    cases h

set_option maxRecDepth 20000 in
/-- For every argument, in every world that holds what is listed. -/
theorem contract (H : Type) (enc : TypeId × Value → H) (W : World) (base : Nat) (args : Array Value) (ds gs : List (DataW H)) (before : List MemPlace)
    (hval : ∀ (j : Nat) t v, Tryz.f6.params[j]? = some t → args[j]? = some v → Value.okWide Tryz.prog W .any base t v)
    (hW : DataW.Whole enc Tryz.prog Tryz.f6.params.toList Rows.fnExactParseTaskSpec.vars false W args.toList ds gs before) (hL : laidMetH Tryz.prog Rows.fnExactParseTaskRow.laid W) (hS : W.ShapedOpen Tryz.prog) :
    Calls Tryz.prog 6 args W fun e W' => ∃ v, e = .returned v ∧ Rows.fnExactParseTaskSpec.post enc Tryz.prog Tryz.f6 false true false false W args v W' := by
  have hW' := hW
  obtain ⟨p, q, hA0, hV, rfl, hfz, hnd⟩ := hW
  have hA : DataW.TrodAll enc Tryz.prog W 0 (fun _ => true) true Tryz.f6.params.toList args.toList ds p := hA0
  rw [Tryz.params6] at hA hval
  obtain ⟨v0, d0, rfl, rfl, ht0⟩ := trodAll_one hA
  have hv : Value.okWide Tryz.prog W .any base 9 v0 := hval 0 9 v0 rfl rfl
  obtain ⟨s, rfl⟩ := okWide_string Tryz.underlying9 hv
  have hT := table hL
  have hZ := cellsTz hL
  obtain ⟨te, pe, hR⟩ := errRng hL
  obtain ⟨te2, pe2, hY⟩ := errSyn hL
  obtain ⟨m, hM⟩ := cell_of_shapedOpen_int (P := Tryz.prog) (g := 2) (t := 3) (zero := #[.int .i64 0]) hS (of_decide_eq_true (by kernel_rfl)) (by kernel_rfl) rfl (by kernel_rfl) (by kernel_rfl) Tryz.underlying3
  have hg : 5 < W.heap.size := by
    have h := hT
    unfold Lib.TabIs World.var? at h
    rw [gTab] at h
    rcases Nat.lt_or_ge 5 W.heap.size with hlt | hge
    · exact hlt
    · simp only [Option.bind_some] at h
      rw [Array.getElem?_eq_none hge] at h
      cases h
  have hlaw := lawTask_spec s.data.toList
  rw [show (⟨s.data.toList.toArray⟩ : ByteArray) = s from rfl] at hlaw
  refine (hlaw.2 W (fun _ => False) (fun _ h => h.elim) ⟨fun o h => (by cases h), trivial⟩ ?_).mono ?_
  · intro φ hφ
    simp only [List.mem_cons, List.not_mem_nil, or_false] at hφ
    rcases hφ with rfl | rfl | rfl | rfl | rfl
    · exact ⟨⟨_, hM, m, rfl⟩, lt_of_cell hM, fun hx => hx.elim id (keys_nil _)⟩
    · exact ⟨⟨_, hY, .inr ⟨_, _, rfl⟩⟩, lt_of_cell hY, fun hx => hx.elim id (keys_nil _)⟩
    · exact ⟨⟨_, hR, .inr ⟨_, _, rfl⟩⟩, lt_of_cell hR, fun hx => hx.elim id (keys_nil _)⟩
    · refine ⟨hT, fun g h => ?_⟩
      obtain rfl := Option.some.inj (gTab.symm.trans h)
      exact ⟨hg, fun hx => hx.elim id (keys_nil _)⟩
    · exact ⟨hZ, lt_of_cell (hZ 0 (by omega)), fun hx => hx.elim id (keys_nil _)⟩
  · rintro en W' ⟨v, L', F', rfl, ⟨rfl, rfl, rfl⟩, hkeep, _, _, _⟩
    have hk : Keep (fun _ => False) W W' := ⟨hkeep.os, hkeep.tape, hkeep.output, hkeep.size, fun x hx _ => hkeep.block x hx (keys_nil x)⟩
    refine ⟨_, rfl, law_post kids sized hW' rfl (fun t ht => ?_) rfl Tryz.underlying4 (fun ds hds => ?_) (by rw [Tryz.params6]; rfl) hk⟩
    · rw [Tryz.params6] at ht
      simp at ht
      exact ht
    · rw [Tryz.params6] at hds
      match ds, hds with
      | [d], _ => rfl

/-- A world for the witness: the settled one, the listed variables laid. -/
noncomputable def laidWorld (os : Os) : World := World.laidAll Tryz.prog os Rows.fnExactParseTaskRow.laid
abbrev arg0 : Value := .string ⟨#[]⟩
theorem laid_met (os : Os) : laidMet Tryz.prog Rows.fnExactParseTaskRow.laid ((laidWorld os).forCall (fun _ _ => 0) ⟨#[], #[arg0], []⟩).memory :=
  laidMet_laidAll #[arg0] (by kernel_rfl) (by kernel_rfl)
theorem reads (os : Os) {H : Type} (enc : TypeId × Value → H) : ∃ places, DataW.whole enc Tryz.prog ((laidWorld os).forCall (fun _ _ => 0) ⟨#[], #[arg0], []⟩).memory Tryz.f6.params.toList Rows.fnExactParseTaskSpec.vars false #[arg0].toList 8 = some ([.lit (.string [])], [], places) :=
  ⟨[], by kernel_rfl⟩

noncomputable abbrev laidCall (os : Os) : World := (laidWorld os).forCall (fun _ _ => 0) ⟨#[], #[arg0], []⟩
theorem w1 (os : Os) : (laidCall os).variablesZipB Tryz.prog = true := by kernel_rfl
theorem w2 (os : Os) : ((laidCall os).heap.toList.drop Tryz.prog.globals.size).take ((begin Tryz.prog (fun _ _ => 0) default).world.heap.size - Tryz.prog.globals.size) = (begin Tryz.prog (fun _ _ => 0) default).world.heap.toList.drop Tryz.prog.globals.size := by kernel_rfl
theorem w3 (os : Os) : Input.okWideB Tryz.prog (laidCall os) 6 ⟨#[], #[arg0], []⟩ = true := by kernel_rfl
theorem w4 (os : Os) {H : Type} (enc : TypeId × Value → H) : (OpenSpec.ofChange Rows.fnExactParseTaskSpec).bare.sizedB enc Tryz.prog Tryz.f6 false (laidCall os).memory #[arg0] 8 = true := by kernel_rfl
theorem w5 (os : Os) {H : Type} (enc : TypeId × Value → H) : (OpenSpec.ofChange Rows.fnExactParseTaskSpec).preRow enc Tryz.prog Tryz.f6 Rows.fnExactParseTaskRow.domain false Rows.fnExactParseTaskRow.laid (laidCall os).memory #[arg0] := by
  obtain ⟨places, hx⟩ := reads os enc
  exact OpenSpec.preRow_of_cond 8 hx rfl (fun k hk => by cases hk) (w4 os enc) (laid_met os)
set_option maxRecDepth 100000 in
/-- There is an input that fits. -/
theorem witness (os : Os) {H : Type} (enc : TypeId × Value → H) : ∃ (w : World) (tape : Tape) (i : Input), w.os = os ∧ (w.forCall tape i).Shaped Tryz.prog ∧ i.vars = [] ∧ Input.okWide Tryz.prog (w.forCall tape i) .any w.heap.size 6 i ∧
    (OpenSpec.ofChange Rows.fnExactParseTaskSpec).preRow enc Tryz.prog Tryz.f6 Rows.fnExactParseTaskRow.domain false Rows.fnExactParseTaskRow.laid (w.forCall tape i).memory i.args ∧
      ({} : Assume).holds Tryz.prog (lone (Frame.enter Tryz.prog 6 i.args .normal) [] (w.forCall tape i)) :=
  ⟨laidWorld os, fun _ _ => 0, ⟨#[], #[arg0], []⟩, World.laidAll_os _ _ _, World.shaped_of_ZipB (w1 os) (w2 os), (Input.okWide_of_okWideB (base := 0) (w3 os)).1, (Input.okWide_of_okWideB (w3 os)).2, w5 os enc, by
    simp only [Assume.holds]
    exact ⟨by simp, by simp, fun _ => Modest.zero, by simp, by simp⟩⟩

end Go.Proofs.YtbllgmcpebifhaaGreatDoor.fnParseTask
