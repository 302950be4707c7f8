/- FnExactParseDyadic answers true for every text that is handed to it: the row's statement and the card, without a condition beside the row's own (the listed variables hold what the program's text lays). -/
import Derived.Test.YtbllgmcpebifhaaDoorCards
import Derived.Test.YtbllgmcpebifhaaDoorTie
import Derived.Test.YtbllgmcpebifhaaDoorHg
import Derived.Test.YtbllgmcpebifhaaDoorKk
import Derived.LaidSub
import Derived.LaidMore
import Derived.Stop.LaidErr
import Derived.Shelf.Vars
namespace Go.Proofs.YtbllgmcpebifhaaDoor.fnParseDyadic
open Go.ChangeShapes Go.WideShapes Go.ChangeAt Go.RowKit Go.Proofs.YtbllgmcpebifhaaDoor.K
set_option linter.all false

theorem own : ownKnob Tryd.prog.godebug = none := by kernel_rfl
theorem gTab : Tryd.prog.globalNamed "internal/strconv.uint64pow10" = some 3 := by kernel_rfl
theorem gRng : Tryd.prog.globalNamed "strconv.ErrRange" = some 2 := by kernel_rfl
theorem gSyn : Tryd.prog.globalNamed "strconv.ErrSyntax" = some 1 := by kernel_rfl

def isKept (t : TypeId) : Prop := t = 9
theorem kids : Kids Tryd.prog isKept := {
  pointer := by rintro t e rfl h; rw [Tryd.underlying9] at h; cases h
  slice := by rintro t e rfl h; rw [Tryd.underlying9] at h; cases h
  array := by rintro t e n rfl h; rw [Tryd.underlying9] at h; cases h
  struct := by rintro t fs rfl h; rw [Tryd.underlying9] at h; cases h
  map := by rintro t k e rfl h; rw [Tryd.underlying9] at h; cases h }
theorem sized {t e : TypeId} (ht : isKept t) (h : Tryd.prog.underlying t = some (.slice e)) : 0 < Tryd.prog.cellsOf e := by
  obtain rfl := ht
  rw [Tryd.underlying9] at h; cases h

/-- What the row's list gives: the table of powers of ten. -/
theorem table {W : World} (h : laidMetH Tryd.prog Rows.fnExactParseDyadicRow.laid W) : Lib.TabIs Tryd.prog W "internal/strconv.uint64pow10" .u64 Lib.pow10Tab := by
  have h1 := h.filter (fun x => x.1 == "internal/strconv.uint64pow10")
  exact Lib.tabIs_of_head (rest := []) (t := 111) (e := 73) (n := 20) gTab (by kernel_rfl) Tryd.underlying111 Tryd.underlying73 (by kernel_rfl) (by kernel_rfl) h1
theorem star : "*" ++ "errors.errorString" = "*errors.errorString" := by decide
/-- The one row of that name. -/
theorem rowErr (u : TypeId) (h : Tryd.prog.typeName? 3 u = some "*errors.errorString") : u = 107 :=
  typeName_ptr_named (nm := "errors.errorString") (by rw [star]; kernel_rfl) (by kernel_rfl) (by decide) u (by rw [star]; exact h)
theorem errRng {W : World} (h : laidMetH Tryd.prog Rows.fnExactParseDyadicRow.laid W) : ∃ te pe, W.cell? ⟨2, 0, none⟩ = some (.iface te pe) := by
  have h1 := h.filter (fun x => x.1 == "strconv.ErrRange")
  obtain ⟨a, s, hv, _, _, _⟩ := laid_sentinel (r := []) h1 gRng (by kernel_rfl) Tryd.underlying39 rowErr Tryd.underlying107 Tryd.underlying109 rfl rfl Tryd.underlying9 (by kernel_rfl) (by kernel_rfl)
  exact ⟨_, _, by have := World.var?_cell gRng hv 0; simpa using this⟩
theorem errSyn {W : World} (h : laidMetH Tryd.prog Rows.fnExactParseDyadicRow.laid W) : ∃ te pe, W.cell? ⟨1, 0, none⟩ = some (.iface te pe) := by
  have h1 := h.filter (fun x => x.1 == "strconv.ErrSyntax")
  obtain ⟨a, s, hv, _, _, _⟩ := laid_sentinel (r := []) h1 gSyn (by kernel_rfl) Tryd.underlying39 rowErr Tryd.underlying107 Tryd.underlying109 rfl rfl Tryd.underlying9 (by kernel_rfl) (by kernel_rfl)
  exact ⟨_, _, by have := World.var?_cell gSyn hv 0; simpa using this⟩
theorem lt_of_cell {W : World} {g : Nat} {v : Value} (h : W.cell? ⟨g, 0, none⟩ = some v) : g < W.heap.size := by
  rcases Nat.lt_or_ge g W.heap.size with hlt | hge
  · exact hlt
  · unfold World.cell? at h
    simp only [Array.getElem?_eq_none hge] at h
    cases h

set_option maxRecDepth 20000 in
/-- For every argument, in every world that holds what is listed. -/
theorem contract (H : Type) (enc : TypeId × Value → H) (W : World) (base : Nat) (args : Array Value) (ds gs : List (DataW H)) (before : List MemPlace)
    (hval : ∀ (j : Nat) t v, Tryd.f3.params[j]? = some t → args[j]? = some v → Value.okWide Tryd.prog W .any base t v)
    (hW : DataW.Whole enc Tryd.prog Tryd.f3.params.toList Rows.fnExactParseDyadicSpec.vars false W args.toList ds gs before) (hL : laidMetH Tryd.prog Rows.fnExactParseDyadicRow.laid W) (hS : W.ShapedOpen Tryd.prog) :
    Calls Tryd.prog 3 args W fun e W' => ∃ v, e = .returned v ∧ Rows.fnExactParseDyadicSpec.post enc Tryd.prog Tryd.f3 false true false false W args v W' := by
  have hW' := hW
  obtain ⟨p, q, hA0, hV, rfl, hfz, hnd⟩ := hW
  have hA : DataW.TrodAll enc Tryd.prog W 0 (fun _ => true) true Tryd.f3.params.toList args.toList ds p := hA0
  rw [Tryd.params3] at hA hval
  obtain ⟨v0, d0, rfl, rfl, ht0⟩ := trodAll_one hA
  have hv : Value.okWide Tryd.prog W .any base 9 v0 := hval 0 9 v0 rfl rfl
  obtain ⟨s, rfl⟩ := okWide_string Tryd.underlying9 hv
  have hT := table hL
  obtain ⟨te, pe, hR⟩ := errRng hL
  obtain ⟨te2, pe2, hY⟩ := errSyn hL
  obtain ⟨m, hM⟩ := cell_of_shapedOpen_int (P := Tryd.prog) (g := 0) (t := 3) (zero := #[.int .i64 0]) hS (of_decide_eq_true (by kernel_rfl)) (by kernel_rfl) rfl (by kernel_rfl) (by kernel_rfl) Tryd.underlying3
  have hg : 3 < W.heap.size := by
    have h := hT
    unfold Lib.TabIs World.var? at h
    rw [gTab] at h
    rcases Nat.lt_or_ge 3 W.heap.size with hlt | hge
    · exact hlt
    · simp only [Option.bind_some] at h
      rw [Array.getElem?_eq_none hge] at h
      cases h
  have hlaw := law_spec s.data.toList
  rw [show (⟨s.data.toList.toArray⟩ : ByteArray) = s from rfl] at hlaw
  refine (hlaw.2 W (fun _ => False) (fun _ h => h.elim) ⟨fun o h => (by cases h), trivial⟩ ?_).mono ?_
  · intro φ hφ
    simp only [List.mem_cons, List.not_mem_nil, or_false] at hφ
    rcases hφ with rfl | rfl | rfl | rfl
    · exact ⟨⟨_, hM, m, rfl⟩, lt_of_cell hM, fun hx => hx.elim id (keys_nil _)⟩
    · exact ⟨⟨_, hY, .inr ⟨_, _, rfl⟩⟩, lt_of_cell hY, fun hx => hx.elim id (keys_nil _)⟩
    · exact ⟨⟨_, hR, .inr ⟨_, _, rfl⟩⟩, lt_of_cell hR, fun hx => hx.elim id (keys_nil _)⟩
    · refine ⟨hT, fun g h => ?_⟩
      obtain rfl := Option.some.inj (gTab.symm.trans h)
      exact ⟨hg, fun hx => hx.elim id (keys_nil _)⟩
  · rintro en W' ⟨v, L', F', rfl, ⟨rfl, rfl, rfl⟩, hkeep, _, _, _⟩
    have hk : Keep (fun _ => False) W W' := ⟨hkeep.os, hkeep.tape, hkeep.output, hkeep.size, fun x hx _ => hkeep.block x hx (keys_nil x)⟩
    refine ⟨_, rfl, law_post kids sized hW' rfl (fun t ht => ?_) rfl Tryd.underlying4 (fun ds hds => ?_) (by rw [Tryd.params3]; rfl) hk⟩
    · rw [Tryd.params3] at ht
      simp at ht
      exact ht
    · rw [Tryd.params3] at hds
      match ds, hds with
      | [d], _ => rfl

/-- A world for the witness: the settled one, its heap the one that the door's run leaves. -/
noncomputable def laidWorld (os : Os) : World := World.doorLaid Tryd.prog 62 os
abbrev arg0 : Value := .string ⟨#[]⟩
theorem laid_met (os : Os) : laidMet Tryd.prog Rows.fnExactParseDyadicRow.laid ((laidWorld os).forCall (fun _ _ => 0) ⟨#[], #[arg0], []⟩).memory :=
  laidMet_of_run' 8 (by kernel_rfl) (by kernel_rfl)
theorem reads (os : Os) {H : Type} (enc : TypeId × Value → H) : ∃ places, DataW.whole enc Tryd.prog ((laidWorld os).forCall (fun _ _ => 0) ⟨#[], #[arg0], []⟩).memory Tryd.f3.params.toList Rows.fnExactParseDyadicSpec.vars false #[arg0].toList 8 = some ([.lit (.string [])], [], places) :=
  ⟨[], by kernel_rfl⟩

set_option maxRecDepth 100000 in
theorem lifted (os : Os) (started : os.Started) (H : Type) (enc : TypeId × Value → H) (F : Stop.Interp) :
    ReturnsInHanded {} Tryd.checked os 3 .any ((OpenSpec.ofChange Rows.fnExactParseDyadicSpec).preRow enc Tryd.prog Tryd.f3 Rows.fnExactParseDyadicRow.domain false Rows.fnExactParseDyadicRow.laid) (((OpenSpec.ofChange Rows.fnExactParseDyadicSpec).at F).post enc Tryd.prog Tryd.f3 false true false false) := by
  obtain ⟨places, hx⟩ := reads os enc
  refine returnsInHanded_of_row (C := Tryd.checked) (s := OpenSpec.ofChange Rows.fnExactParseDyadicSpec) own started (by kernel_rfl) Tryd.func3
    (witness_row_at (enc := enc) (C := Tryd.checked) false (laidWorld os) #[arg0] rfl (by kernel_rfl) (by kernel_rfl) (by kernel_rfl)
      (OpenSpec.preRow_of_cond 8 hx (by kernel_rfl) (fun k hk => by cases hk) (by kernel_rfl) (laid_met os))) ?_
  intro W base args ds gs before hval hW _ _ _ hL hS _
  exact contract H enc W base args ds gs before hval hW hL hS

theorem said : Rows.FnExactParseDyadicSaid :=
  OpenClaim.holds_of_cond 3 Tryd.f3 rfl rfl rfl rfl rfl rfl rfl ⟨rfl, rfl, rfl, rfl, rfl⟩ rfl rfl rfl rfl rfl (by kernel_rfl) Tryd.func3 (by kernel_rfl)
    (of_decide_eq_true (by kernel_rfl)) (by unfold Func.isWrapper; first | (rw [if_pos (by decide +kernel)]; kernel_rfl) | (rw [if_neg (by decide +kernel)]; exact ⟨rfl, rfl⟩))
    (fun os started H enc _ F => by rw [OpenClaim.pre_eq_preRow]; exact lifted os started H enc F)

theorem plain (f : FuncId) (fn : Func) (hf : Tryd.pinned.checked.prog.funcNamed "loop.example/g01156/laws.FnExactParseDyadic" = some f) (hfn : Tryd.pinned.checked.prog.funcs[f]? = some fn) :
    true = Tryd.pinned.checked.prog.looks [] ∧ ∀ (j : Nat) t, fn.params[j]? = some t → Tryd.pinned.checked.prog.wantsStandIn t = false := by
  obtain rfl : f = 3 := Option.some.inj ((show Tryd.prog.funcNamed "loop.example/g01156/laws.FnExactParseDyadic" = some 3 by kernel_rfl).symm.trans hf) |>.symm
  obtain rfl : fn = Tryd.f3 := (Option.some.inj (Tryd.func3.symm.trans hfn)).symm
  refine ⟨by kernel_rfl, fun j t ht => ?_⟩
  rw [Tryd.params3] at ht
  obtain rfl : t = 9 := by simpa using Array.mem_of_getElem? ht
  exact (show Tryd.prog.wantsStandIn 9 = false by kernel_rfl)

/-- The card. -/
theorem card : Rows.FnExactParseDyadicCardSaid :=
  Claim7.holds_tied_plain_at .later [] _ _ _ _ said (fun _ h => by cases h) (by kernel_rfl) (fun _ h => by cases h) fnExactParseDyadic_row_tie rfl ⟨rfl, rfl⟩ (by kernel_rfl) rfl plain (by kernel_rfl)
end Go.Proofs.YtbllgmcpebifhaaDoor.fnParseDyadic
