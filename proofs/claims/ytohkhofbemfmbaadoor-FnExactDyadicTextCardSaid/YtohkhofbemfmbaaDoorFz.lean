/- FnExactDyadicText answers true for every exact number that is handed to it, and leaves it as it was: the row's statement and the card, without a condition beside the row's own (the listed variables hold what the program's text lays). -/
import Derived.Test.YtohkhofbemfmbaaDoorCards
import Derived.Test.YtohkhofbemfmbaaDoorTie
import Derived.Test.YtohkhofbemfmbaaDoorFm
import Derived.Test.YtohkhofbemfmbaaDoorKk
import Derived.LaidSub
namespace Go.Proofs.YtohkhofbemfmbaaDoor.fnDyadicText
open Go.ChangeShapes Go.WideShapes Go.ChangeAt Go.RowKit Go.Proofs.YtohkhofbemfmbaaDoor.K

theorem own : ownKnob Tryd.prog.godebug = none := by kernel_rfl
theorem gTab : Tryd.prog.globalNamed "internal/strconv.uint64pow10" = some 0 := by kernel_rfl

def isKept (t : TypeId) : Prop := t = 26 ∨ t = 24 ∨ t = 22 ∨ t = 2
theorem kids : Kids Tryd.prog isKept where
  pointer := by
    rintro t e (rfl | rfl | rfl | rfl) h
    · rw [Tryd.underlying26] at h; cases h
    · rw [Tryd.underlying24] at h; cases h
    · rw [Tryd.underlying22] at h; cases h
    · rw [Tryd.underlying2] at h; cases h
  slice := by
    rintro t e (rfl | rfl | rfl | rfl) h
    · rw [Tryd.underlying26] at h; cases h
    · rw [Tryd.underlying24] at h; cases h
    · rw [Tryd.underlying22] at h; cases h; exact .inr (.inr (.inr rfl))
    · rw [Tryd.underlying2] at h; cases h
  array := by
    rintro t e n (rfl | rfl | rfl | rfl) h
    · rw [Tryd.underlying26] at h; cases h
    · rw [Tryd.underlying24] at h; cases h
    · rw [Tryd.underlying22] at h; cases h
    · rw [Tryd.underlying2] at h; cases h
  struct := by
    have c1 : Tryd.prog.cellsOf 26 = 3 := by kernel_rfl
    have c2 : Tryd.prog.cellsOf 24 = 2 := by kernel_rfl
    have c3 : Tryd.prog.cellsOf 22 = 1 := by kernel_rfl
    have c4 : Tryd.prog.cellsOf 2 = 1 := by kernel_rfl
    rintro t fs (rfl | rfl | rfl | rfl) h
    · rw [Tryd.underlying26] at h
      cases h
      refine ⟨?_, by simp [c1, c2, c4], ?_⟩
      · intro f hf
        simp at hf
        rcases hf with rfl | rfl
        · exact .inr (.inl rfl)
        · exact .inr (.inr (.inr rfl))
      · intro j f hj
        match j with
        | 0 => simp at hj; subst hj; rfl
        | 1 => simp at hj; subst hj; simp [c2]
        | j + 2 => simp at hj
    · rw [Tryd.underlying24] at h
      cases h
      refine ⟨?_, by simp [c2, c3, c4], ?_⟩
      · intro f hf
        simp at hf
        rcases hf with rfl | rfl
        · exact .inr (.inr (.inr rfl))
        · exact .inr (.inr (.inl rfl))
      · intro j f hj
        match j with
        | 0 => simp at hj; subst hj; rfl
        | 1 => simp at hj; subst hj; simp [c4]
        | j + 2 => simp at hj
    · rw [Tryd.underlying22] at h; cases h
    · rw [Tryd.underlying2] at h; cases h
  map := by
    rintro t k e (rfl | rfl | rfl | rfl) h
    · rw [Tryd.underlying26] at h; cases h
    · rw [Tryd.underlying24] at h; cases h
    · rw [Tryd.underlying22] at h; cases h
    · rw [Tryd.underlying2] at h; cases h
theorem sized {t e : TypeId} (ht : isKept t) (h : Tryd.prog.underlying t = some (.slice e)) : 0 < Tryd.prog.cellsOf e := by
  have := kids.slice ht h
  rcases this with rfl | rfl | rfl | rfl
  · rw [show Tryd.prog.cellsOf 26 = 3 by kernel_rfl]; decide
  · rw [show Tryd.prog.cellsOf 24 = 2 by kernel_rfl]; decide
  · rw [show Tryd.prog.cellsOf 22 = 1 by kernel_rfl]; decide
  · rw [show Tryd.prog.cellsOf 2 = 1 by kernel_rfl]; decide

/-- What the row's list gives: the table of powers of ten. -/
theorem table {W : World} (h : laidMetH Tryd.prog Rows.fnExactDyadicTextRow.laid W) : Lib.TabIs Tryd.prog W "internal/strconv.uint64pow10" .u64 Lib.pow10Tab := by
  have h1 := h.filter (fun x => x.1 == "internal/strconv.uint64pow10")
  exact Lib.tabIs_of_head (rest := []) (t := 83) (e := 68) (n := 20) gTab (by kernel_rfl) Tryd.underlying83 Tryd.underlying68 (by kernel_rfl) (by kernel_rfl) h1

theorem at_false {w : World} {α : Type} {s : Nat} {R : Rep α} {v : Value} {l : List α} (h : ListAt s R v l w (fun _ => False)) : ListAt s R v l w (fun x => False ∨ keys [] x) :=
  h.stable ⟨Nat.le_refl _, fun _ _ _ => rfl, fun x _ hx => hx.elim id (keys_nil x)⟩

/-- For every argument, in every world that holds the table. -/
theorem contract (H : Type) (enc : TypeId × Value → H) (W : World) (base : Nat) (args : Array Value) (ds gs : List (DataW H)) (before : List MemPlace)
    (hval : ∀ (j : Nat) t v, Tryd.f3.params[j]? = some t → args[j]? = some v → Value.okWide Tryd.prog W .any base t v)
    (hW : DataW.Whole enc Tryd.prog Tryd.f3.params.toList Rows.fnExactDyadicTextSpec.vars false W args.toList ds gs before) (hL : laidMetH Tryd.prog Rows.fnExactDyadicTextRow.laid W) :
    Calls Tryd.prog 3 args W fun e W' => ∃ v, e = .returned v ∧ Rows.fnExactDyadicTextSpec.post enc Tryd.prog Tryd.f3 false true false false W args v W' := by
  have hW' := hW
  obtain ⟨p, q, hA0, hV, rfl, hfz, hnd⟩ := hW
  have hA : DataW.TrodAll enc Tryd.prog W 0 (fun _ => true) true Tryd.f3.params.toList args.toList ds p := hA0
  rw [Tryd.params3] at hA hval
  obtain ⟨v0, d0, rfl, rfl, ht0⟩ := trodAll_one hA
  have hv := hval 0 _ v0 rfl rfl
  obtain ⟨cs, rfl, hsz⟩ := okWide_struct Tryd.underlying26 hv
  have k3 : Tryd.prog.cellsOf 26 = 3 := by kernel_rfl
  have k2 : Tryd.prog.cellsOf 24 = 2 := by kernel_rfl
  have k1 : Tryd.prog.cellsOf 22 = 1 := by kernel_rfl
  have k0 : Tryd.prog.cellsOf 2 = 1 := by kernel_rfl
  rw [k3] at hsz
  obtain ⟨cl⟩ := cs
  match cl, hsz with
  | [c0, c1, c2], _ =>
    obtain ⟨fuel, h1⟩ := ht0
    obtain ⟨y0, y1, n, _, _, t0, t1⟩ := trod_struct2 Tryd.underlying26 h1
    have t0 : DataW.trod enc Tryd.prog W 0 (fun _ => true) true n 24 (([c0, c1, c2].drop 0).take (Tryd.prog.cellsOf 24)) = some y0 := t0
    have t1 : DataW.trod enc Tryd.prog W 0 (fun _ => true) true n 2 (([c0, c1, c2].drop 2).take (Tryd.prog.cellsOf 2)) = some y1 := t1
    rw [k2] at t0
    rw [k0] at t1
    obtain ⟨z0, z1, n2, _, _, s0, s1⟩ := trod_struct2 Tryd.underlying24 t0
    have s0 : DataW.trod enc Tryd.prog W 0 (fun _ => true) true n2 2 (([c0, c1].drop 0).take (Tryd.prog.cellsOf 2)) = some z0 := s0
    have s1 : DataW.trod enc Tryd.prog W 0 (fun _ => true) true n2 22 (([c0, c1].drop 1).take (Tryd.prog.cellsOf 22)) = some z1 := s1
    rw [k0] at s0
    rw [k1] at s1
    obtain ⟨sg, hsg, _, _⟩ := DataW.trod_int Tryd.underlying2 s0
    obtain ⟨e, he, _, _⟩ := DataW.trod_int Tryd.underlying2 t1
    have hsg2 : c0 = .int .i64 sg := (List.cons.inj (show [c0] = [.int .i64 sg] from hsg)).1
    have he2 : c2 = .int .i64 e := (List.cons.inj (show [c2] = [.int .i64 e] from he)).1
    subst hsg2; subst he2
    obtain ⟨l, hl⟩ := readInts Tryd.underlying22 Tryd.underlying2 k0 s1
    have hT := table hL
    have hg : 0 < W.heap.size := by
      have h := hT
      unfold Lib.TabIs World.var? at h
      rw [gTab] at h
      rcases Nat.lt_or_ge 0 W.heap.size with hlt | hge
      · exact hlt
      · simp only [Option.bind_some] at h
        rw [Array.getElem?_eq_none hge] at h
        cases h
    refine ((law_spec sg e c1 l).2 W (fun _ => False) (fun _ h => h.elim) ⟨fun o h => (by cases h), trivial⟩ ?_).mono ?_
    · intro φ hφ
      simp only [List.mem_cons, List.not_mem_nil, or_false] at hφ
      rcases hφ with rfl | rfl
      · exact at_false hl
      · refine ⟨hT, fun g h => ?_⟩
        obtain rfl := Option.some.inj (gTab.symm.trans h)
        exact ⟨hg, fun hx => hx.elim id (keys_nil _)⟩
    · rintro en W' ⟨v, L', F', rfl, ⟨rfl, rfl, rfl⟩, hkeep, _, _, _⟩
      have hk : Keep (fun _ => False) W W' := ⟨hkeep.os, hkeep.tape, hkeep.output, hkeep.size, fun x hx _ => hkeep.block x hx (keys_nil x)⟩
      refine ⟨_, rfl, law_post kids sized hW' rfl (fun t ht => ?_) rfl Tryd.underlying4 (fun ds hds => ?_) (by rw [Tryd.params3]; rfl) hk⟩
      · rw [Tryd.params3] at ht
        simp at ht
        exact .inl ht
      · rw [Tryd.params3] at hds
        match ds, hds with
        | [d], _ => rfl

/-- A world for the witness: the settled one, the tables holding what their initialisers lay. -/
def ints (k : IntKind) : DataW Unit → Array Value
  | .agg ds => (ds.map fun | .lit (.int _ z) => Value.int k z | _ => Value.int k 0).toArray
  | _ => #[]
def lay (g : Nat) (vs : Array Value) (h : Array Obj) : Array Obj := h.modify g fun
  | .cells _ t frozen => .cells vs t frozen
  | o => o
noncomputable def laidWorld (os : Os) : World :=
  { World.holding Tryd.prog os ⟨#[], #[], []⟩ with heap := lay 0 (ints .u64 Rows.laid_internal_strconv_uint64pow10) (lay 2 (ints .u8 Rows.laid_math_bits_deBruijn64tab) (lay 1 (ints .u8 Rows.laid_math_bits_deBruijn32tab) (World.holding Tryd.prog os ⟨#[], #[], []⟩).heap)) }
abbrev arg0 : Value := .agg #[.int .i64 0, .slice none 0 0, .int .i64 0]
theorem laid_met (os : Os) : laidMet Tryd.prog Rows.fnExactDyadicTextRow.laid ((laidWorld os).forCall (fun _ _ => 0) ⟨#[], #[arg0], []⟩).memory :=
  laidMet_of_run' 8 (by kernel_rfl) (by kernel_rfl)
theorem reads (os : Os) {H : Type} (enc : TypeId × Value → H) : ∃ places, DataW.whole enc Tryd.prog ((laidWorld os).forCall (fun _ _ => 0) ⟨#[], #[arg0], []⟩).memory Tryd.f3.params.toList Rows.fnExactDyadicTextSpec.vars false #[arg0].toList 8 = some ([.agg [.agg [.lit (.int .i64 0), .nil], .lit (.int .i64 0)]], [], places) :=
  ⟨[], by kernel_rfl⟩

set_option maxRecDepth 100000 in
theorem lifted (os : Os) (started : os.Started) (H : Type) (enc : TypeId × Value → H) (F : Stop.Interp) :
    ReturnsInHanded {} Tryd.checked os 3 .any ((OpenSpec.ofChange Rows.fnExactDyadicTextSpec).preRow enc Tryd.prog Tryd.f3 Rows.fnExactDyadicTextRow.domain false Rows.fnExactDyadicTextRow.laid) (((OpenSpec.ofChange Rows.fnExactDyadicTextSpec).at F).post enc Tryd.prog Tryd.f3 false true false false) := by
  obtain ⟨places, hx⟩ := reads os enc
  refine returnsInHanded_of_row (C := Tryd.checked) (s := OpenSpec.ofChange Rows.fnExactDyadicTextSpec) own started (by kernel_rfl) Tryd.func3
    (witness_row_at (enc := enc) (C := Tryd.checked) false (laidWorld os) #[arg0] rfl (by kernel_rfl) (by kernel_rfl) (by kernel_rfl)
      (OpenSpec.preRow_of_cond 8 hx (by kernel_rfl) (fun k hk => by cases hk) (by kernel_rfl) (laid_met os))) ?_
  intro W base args ds gs before hval hW _ _ _ hL _ _
  exact contract H enc W base args ds gs before hval hW hL

theorem said : Rows.FnExactDyadicTextSaid :=
  OpenClaim.holds_of_cond 3 Tryd.f3 rfl rfl rfl rfl rfl rfl rfl ⟨rfl, rfl, rfl, rfl, rfl⟩ rfl rfl rfl rfl rfl (by kernel_rfl) Tryd.func3 (by kernel_rfl)
    (of_decide_eq_true (by kernel_rfl)) (by unfold Func.isWrapper; first | (rw [if_pos (by decide +kernel)]; kernel_rfl) | (rw [if_neg (by decide +kernel)]; exact ⟨rfl, rfl⟩))
    (fun os started H enc _ F => by rw [OpenClaim.pre_eq_preRow]; exact lifted os started H enc F)

theorem plain (f : FuncId) (fn : Func) (hf : Tryd.pinned.checked.prog.funcNamed "loop.example/g01156/laws.FnExactDyadicText" = some f) (hfn : Tryd.pinned.checked.prog.funcs[f]? = some fn) :
    false = Tryd.pinned.checked.prog.looks [] ∧ ∀ (j : Nat) t, fn.params[j]? = some t → Tryd.pinned.checked.prog.wantsStandIn t = false := by
  obtain rfl : f = 3 := Option.some.inj ((show Tryd.prog.funcNamed "loop.example/g01156/laws.FnExactDyadicText" = some 3 by kernel_rfl).symm.trans hf) |>.symm
  obtain rfl : fn = Tryd.f3 := (Option.some.inj (Tryd.func3.symm.trans hfn)).symm
  refine ⟨by kernel_rfl, fun j t ht => ?_⟩
  rw [Tryd.params3] at ht
  obtain rfl : t = 26 := by simpa using Array.mem_of_getElem? ht
  exact (show Tryd.prog.wantsStandIn 26 = false by kernel_rfl)

/-- The card. -/
theorem card : Rows.FnExactDyadicTextCardSaid :=
  Claim7.holds_tied_plain_at .later [] _ _ _ _ said (fun _ h => by cases h) (by kernel_rfl) (fun _ h => by cases h) fnExactDyadicText_row_tie rfl ⟨rfl, rfl⟩ (by kernel_rfl) rfl plain (by kernel_rfl)
end Go.Proofs.YtohkhofbemfmbaaDoor.fnDyadicText
