/-
  config: from the variables as a row lists them to what the walks know ('Env'); the wrap of a row with laid variables that keeps the world's shape.
-/
import Derived.Test.YtjgkalcldekmpaaGreatDoorCfgA
import Derived.Test.YtjgkalcldekmpaaGreatDoorRows
import Derived.ProofKit
import Derived.LaidMore
import Derived.OpenShut
import Derived.Stop.Joined
import Derived.Stop.LaidErr
import Derived.Lib.LaidU8
import Derived.Shelf.Vars
import Derived.HandedShaped
namespace Go.Proofs.YtjgkalcldekmpaaGreatDoor
open Go.ChangeShapes Go.WideShapes Go.ChangeAt Go.RowKit Go
set_option maxRecDepth 100000

abbrev laid2 : List (String × DataW Unit) := [("math/bits.deBruijn32tab", Rows.laid_math_bits_deBruijn32tab), ("math/bits.deBruijn64tab", Rows.laid_math_bits_deBruijn64tab), ("internal/strconv.uint64pow10", Rows.laid_internal_strconv_uint64pow10), ("unicode/utf8.acceptRanges", Rows.laid_unicode_utf8_acceptRanges), ("strconv.ErrRange", Rows.laid_strconv_ErrRange), ("strconv.ErrSyntax", Rows.laid_strconv_ErrSyntax), ("covey/config.strategies", Rows.laid_covey_config_strategies), ("unicode/utf8.first", Rows.laid_unicode_utf8_first)]
theorem Tryz.star : "*" ++ "errors.errorString" = "*errors.errorString" := by decide
theorem Tryz.rowE (u : TypeId) (h : Tryz.prog.typeName? 3 u = some "*errors.errorString") : u = 154 :=
  typeName_ptr_named (nm := "errors.errorString") (by rw [Tryz.star]; kernel_rfl) (by kernel_rfl) (by decide) u (by rw [Tryz.star]; exact h)
theorem pow_eq : (Rows.laid_internal_strconv_uint64pow10 : DataW Unit) = Lib.tabData .u64 Lib.pow10Tab := by
  unfold Rows.laid_internal_strconv_uint64pow10 Lib.tabData Lib.pow10Tab
  rfl
theorem str_eq : (Rows.laid_covey_config_strategies : DataW Unit) = .agg (NMS.map fun r => .lit (.string r)) := rfl
theorem of_laid {W : World} (h : laidMetH Tryz.prog laid2 W) (hs : W.ShapedOpen Tryz.prog) : Env W := by
  rw [MakeChecks.laidMetH_plain _ _ _ (by kernel_rfl)] at h
  have ht := h.tail.tail
  obtain ⟨a0, t0, hv0, _⟩ := Go.laid_sentinel (g := 6) ht.tail.tail (by kernel_rfl) (by kernel_rfl) Tryz.underlying67 Tryz.rowE Tryz.underlying154 Tryz.underlying156 rfl rfl Tryz.underlying9 (by kernel_rfl) (by kernel_rfl)
  obtain ⟨a1, t1, hv1, _⟩ := Go.laid_sentinel (g := 5) ht.tail.tail.tail (by kernel_rfl) (by kernel_rfl) Tryz.underlying67 Tryz.rowE Tryz.underlying154 Tryz.underlying156 rfl rfl Tryz.underlying9 (by kernel_rfl) (by kernel_rfl)
  have htab : Lib.TabIs Tryz.prog W "internal/strconv.uint64pow10" .u64 Lib.pow10Tab := by
    have h2 := ht
    rw [pow_eq] at h2
    exact Lib.tabIs_of_head gTab (by kernel_rfl) Tryz.underlying143 Tryz.underlying130 (by kernel_rfl) (by kernel_rfl) h2
  obtain ⟨g, t, cs, fuel, p, hg, hty, hv, hd⟩ := Lib.laidMet.reads h (n := "covey/config.strategies") (d := Rows.laid_covey_config_strategies) (by simp)
  have gS : Tryz.prog.globalNamed "covey/config.strategies" = some 0 := by kernel_rfl
  have tS : (Tryz.prog.globals[0]?).map (·.type) = some 102 := by kernel_rfl
  have cS : Tryz.prog.cellsOf 9 = 1 := by kernel_rfl
  obtain rfl := Option.some.inj (gS.symm.trans hg)
  obtain rfl := Option.some.inj (tS.symm.trans hty)
  rw [str_eq] at hd
  refine ⟨cell_of_shapedOpen_int hs (of_decide_eq_true (by kernel_rfl)) (t := 3) (by kernel_rfl) (zero := #[.int .i64 0]) (by kernel_rfl) (by kernel_rfl) (by kernel_rfl) Tryz.underlying3, htab, ⟨_, _, hv1⟩, ⟨_, _, hv0⟩, fun i hi => ?_, ?_⟩
  · obtain ⟨xs, m, _, hx, hlen, hn, hel⟩ := DataW.trod_array Tryz.underlying102 hd
    have h1 := hel i hi
    rw [cS, Nat.mul_one, List.getElem?_eq_getElem (by omega)] at h1
    obtain ⟨s, e1, e2, _⟩ := DataW.trod_string Tryz.underlying9 h1
    have hm : NMS.map (fun r => DataW.lit (.string r)) = xs.map (·.1) := by
      have := congrArg Prod.fst hx
      simpa using this
    have h3 := congrArg (fun z => z[i]?) hm
    have hf2 : i < NMS.length := by show i < 5; exact hi
    simp only [List.getElem?_map, List.getElem?_eq_getElem hf2, List.getElem?_eq_getElem (show i < xs.length by omega), Option.map_some, e2, Option.some.injEq, DataW.lit.injEq, Lit.string.injEq] at h3
    have h4 := World.var?_cell hg hv i
    rw [h4]
    have h5 : cs[i]? = some (.string s) := by
      have := congrArg (fun z => z[0]?) e1
      simpa [List.getElem?_take, List.getElem?_drop] using this
    rw [h5]
    have h6 : NMS.getD i [] = s.data.toList := by simp [List.getD, hf2, h3]
    rw [h6, bs_of]
  · obtain ⟨g8, t8, c8, f8, p8, hg8, _, hv8, _⟩ := Lib.laidMet.reads h (n := "math/bits.deBruijn64tab") (d := Rows.laid_math_bits_deBruijn64tab) (by simp)
    have gD : Tryz.prog.globalNamed "math/bits.deBruijn64tab" = some 8 := by kernel_rfl
    obtain rfl := Option.some.inj (gD.symm.trans hg8)
    unfold World.var? at hv8
    rw [hg8] at hv8
    simp only [Option.bind_some] at hv8
    rcases Nat.lt_or_ge 8 W.heap.size with q | q
    · exact q
    · rw [Array.getElem?_eq_none q] at hv8; cases hv8
/-- a world in which the variables hold what is listed: what the initialisers lay, and the pinned table -/
noncomputable def doorW (os : Os) : World :=
  { World.doorLaid Tryz.prog 4000 os with heap := (World.doorLaid Tryz.prog 4000 os).heap.modify 2 fun
    | .cells _ t fr => .cells (Go.Pinned.utf8FirstZ.map fun (z : Nat) => Value.int .u8 z).toArray t fr
    | o => o }
theorem door_met (os : Os) (args : Array Value) : laidMetH Tryz.prog laid2 ((doorW os).forCall (fun _ _ => 0) ⟨#[], args, []⟩).memory :=
  laidMetH_of_parts3 (fuel := 8) (laidMet_of_run' 8 (by kernel_rfl) (by kernel_rfl)) (by kernel_rfl) (by kernel_rfl)
theorem returnsInHanded_of_change_and_shaped {H : Type} {enc : TypeId × Value → H} {a : Assume} {C : Checked} {os : Os} {f : FuncId} {fn : Func} {s : ChangeSpec} {conds : List PathCond} {apart fresh handsOn again : Bool} {X : World → Array Value → Prop}
    (hX : ∀ (w w' : World) (args : Array Value), w.heap = w'.heap → X w args → X w' args)
    (own : ownKnob C.prog.godebug = none) (started : os.Started) (noInit : C.prog.inits.idxOf? f = none) (hfn : C.prog.funcs[f]? = some fn)
    (witness : ∃ (w : World) (tape : Tape) (i : Input), w.os = os ∧ (w.forCall tape i).Shaped C.prog ∧ i.vars = [] ∧ Input.okWide C.prog (w.forCall tape i) .any w.heap.size f i ∧
      ((s.pre enc C.prog fn conds apart (w.forCall tape i).memory i.args ∧ X (w.forCall tape i).memory i.args) ∧ sizedMet enc C.prog fn (OpenSpec.ofChange s) apart (w.forCall tape i).memory i.args) ∧ a.holds C.prog (lone (Frame.enter C.prog f i.args .normal) [] (w.forCall tape i)))
    (contract : ∀ (W : World) (base : Nat) (args : Array Value) (ds gs : List (DataW H)) (before : List MemPlace),
      (∀ (j : Nat) t v, fn.params[j]? = some t → args[j]? = some v → Value.okWide C.prog W .any base t v) →
      DataW.Whole enc C.prog fn.params.toList s.vars apart W args.toList ds gs before →
      conds.all (PathCond.test C.prog ⟨fn.params.toList, ds, s.plain.varTypes C.prog, gs⟩) = true →
      X W args → W.ShapedOpen C.prog →
      Calls C.prog f args W fun e W' => ∃ v, e = .returned v ∧ s.post enc C.prog fn apart fresh handsOn again W args v W') :
    ReturnsInHanded a C os f .any (fun w args => (s.pre enc C.prog fn conds apart w args ∧ X w args) ∧ sizedMet enc C.prog fn (OpenSpec.ofChange s) apart w args) (s.post enc C.prog fn apart fresh handsOn again) := by
  refine returnsInHanded_of_calls own started noInit witness ?_
  intro w tape i _ hsh _ hok hpre _
  obtain ⟨_, _, _, fn', hfn', _, _, _, _, hval⟩ := hok
  have e : fn' = fn := Option.some.inj (hfn'.symm.trans hfn)
  subst e
  obtain ⟨⟨⟨ds, gs, before, hw, hc⟩, hx⟩, hz⟩ := hpre
  have hw' := DataW.Whole.of_heap (w' := w.forCall tape i) (by rfl) hw
  refine (contract (w.forCall tape i) w.heap.size i.args ds gs before hval hw' hc (hX _ _ _ (by rfl) hx) hsh).mono fun e W' ⟨v, he, hp⟩ => ?_
  subst he
  exact ChangeSpec.post_blind hp
end Go.Proofs.YtjgkalcldekmpaaGreatDoor
