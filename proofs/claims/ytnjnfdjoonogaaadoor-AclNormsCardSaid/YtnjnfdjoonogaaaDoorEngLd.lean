/-
  The engine: a law's row whose statement lists package variables (they are not read here: what the row lists is not needed).
-/
import Derived.Test.YtnjnfdjoonogaaaDoorEngZ
import Derived.LaidLaws
import Derived.LaidHandle
import Derived.LaidMore
import Derived.Lay
import Derived.LaidOnce
import Derived.MakeChecks
set_option linter.unusedVariables false
set_option linter.unusedSimpArgs false
namespace Go.Eng
open Go.RowKit Go.Lib Go.ChangeShapes Go.WideShapes Go.ChangeAt
section
variable {H : Type} {enc : TypeId × Value → H} {P : Program} {w : World}
/-- **A law's row, out of what is promised of its function**: at whatever data of the arguments' types it answers true, and brings nothing and leaves nothing. -/
theorem law_liftedL {C : Checked} {os : Os} (started : os.Started) {n : FuncId} {fn : Func} {s : ChangeSpec} {conds : List PathCond} {rt : TypeId} (m : Nat) (laid : List (String × DataW Unit)) (hp : (laid.all fun x => x.2.handleName?.isNone) = true)
    (own : ownKnob C.prog.godebug = none) (hlaid : laidOutB C.prog = true) (noInit : C.prog.inits.idxOf? n = none) (hfn : C.prog.funcs[n]? = some fn)
    (witness : ∃ (w : World) (tape : Tape) (i : Input), w.os = os ∧ (w.forCall tape i).Shaped C.prog ∧ i.vars = [] ∧ Input.okWide C.prog (w.forCall tape i) .any w.heap.size n i ∧
      ((s.pre enc C.prog fn conds false (w.forCall tape i).memory i.args ∧ laidMetH C.prog laid (w.forCall tape i).memory) ∧ sizedMet enc C.prog fn (OpenSpec.ofChange s) false (w.forCall tape i).memory i.args) ∧ Assume.holds {} C.prog (lone (Frame.enter C.prog n i.args .normal) [] (w.forCall tape i)))
    (hr : fn.resultTypes = #[rt]) (hrt : C.prog.underlying rt = some .bool) (hvars : s.vars = [])
    (hread' : fn.params.toList.all (fun t => C.prog.readableRec t && decide (t < C.prog.types.size)) = true) (hcs' : fn.params.toList.all (fun t => (csOf C.prog m t).isSome) = true)
    (hsp : ∀ ds : List (DataW H), ds.length = fn.params.toList.length → s.fn H ds = { results := [.lit (.bool true)], args := ds })
    (spec : ∀ dss, WTargs C.prog m fn.params.toList dss → Spec C.prog n [] [] (argsS C.prog fn.params.toList dss) [] (.d (.v (.bool true)))) :
    ReturnsInHanded {} C os n .any (fun w args => (s.pre enc C.prog fn conds false w args ∧ laidMetH C.prog laid w) ∧ sizedMet enc C.prog fn (OpenSpec.ofChange s) false w args) (s.post enc C.prog fn false true false false) := by
  have hread : ∀ t ∈ fn.params.toList, C.prog.readableRec t = true ∧ t < C.prog.types.size := fun t ht => by simpa using List.all_eq_true.1 hread' t ht
  have hcs : ∀ t ∈ fn.params.toList, (csOf C.prog m t).isSome = true := fun t ht => List.all_eq_true.1 hcs' t ht
  refine returnsInHanded_of_change_and (X := fun w _ => laidMetH C.prog laid w) (fun w w' _ hh h => by rw [MakeChecks.laidMetH_plain _ _ _ hp] at h ⊢; exact h.of_heap hh) own started noInit hfn witness ?_
  intro W base args ds gs before hval hW hcnd hsz _ _
  have hW' := hW
  obtain ⟨p, q, hA, hV, rfl, hfz, hnd⟩ := hW
  rw [hvars] at hV
  obtain ⟨rfl, rfl⟩ := trodVars_none hV
  obtain ⟨hl1, hl2⟩ := trodAll_long hA
  obtain ⟨dss, h1, h2⟩ := open_args (lv := fun _ => none) (n := m) (r := .any) (b := base) hA hcs (fun k hk => by
    have hk' : k ∈ DataW.weightsEach C.prog (fn.params.toList ++ s.plain.varTypes C.prog) (ds ++ []) := by
      have e : s.plain.varTypes C.prog = [] := by
        have : s.plain.vars = [] := hvars
        simp [DataSpec.varTypes, this]
      rw [e, List.append_nil, List.append_nil]; exact hk
    simpa using List.all_eq_true.1 hsz k hk') (fun j t v ht hv => hval j t v (by simpa using ht) (by simpa using hv))
  refine ((spec dss h1).below (vs := args.toList) (by rw [h1.length, hl1]) h2).mono fun e W' h => ?_
  obtain ⟨v, ok', lv', rfl, hrep, bel⟩ := h
  have hv := hrep.dv
  subst hv
  have hs := hsp (ds ++ []) (by rw [List.append_nil]; exact hl2)
  rw [List.append_nil] at hs
  refine ⟨_, rfl, ds, [], p ++ [], [], p, [], hW', ?_, ?_, ?_, bel.frame _, fun h => by cases h⟩
  · rw [List.append_nil, hs, hr]
    exact trodAll_mk1 (shut_bool hrt _)
  · rw [List.append_nil, hs]
    exact trodAll_again hlaid bel hA hread
  · rw [List.append_nil, hs, hvars]
    rfl
end

/-- A world that holds what the row lists, and arguments: a witness. -/
theorem witnessL {H : Type} {enc : TypeId × Value → H} {C : Checked} {os : Os} {f : FuncId} {fn : Func} {s : ChangeSpec} {conds : List PathCond} (laid : List (String × DataW Unit)) (args : Array Value) (fuel : Nat)
    (hp : (laid.all fun x => x.2.handleName?.isNone) = true)
    (hf : (World.holding C.prog os ⟨#[], #[], []⟩).layFits C.prog laid [] = true)
    (hi : (World.holding C.prog os ⟨#[], #[], []⟩).layIfaces C.prog laid (World.laidAll C.prog os laid) = true)
    (hv : ((World.laidAll C.prog os laid).forCall (fun _ _ => 0) ⟨#[], args, []⟩).variablesZipB C.prog = true)
    (hr : (((World.laidAll C.prog os laid).forCall (fun _ _ => 0) ⟨#[], args, []⟩).heap.toList.drop C.prog.globals.size).take ((begin C.prog (fun _ _ => 0) default).world.heap.size - C.prog.globals.size) =
      (begin C.prog (fun _ _ => 0) default).world.heap.toList.drop C.prog.globals.size)
    (hok : Input.okWideB C.prog ((World.laidAll C.prog os laid).forCall (fun _ _ => 0) ⟨#[], args, []⟩) f ⟨#[], args, []⟩ = true)
    (hpre : s.preB enc C.prog fn conds false ((World.laidAll C.prog os laid).forCall (fun _ _ => 0) ⟨#[], args, []⟩).memory args fuel = true)
    (hsz : s.sizedB enc C.prog fn false ((World.laidAll C.prog os laid).forCall (fun _ _ => 0) ⟨#[], args, []⟩).memory args fuel = true) :
    ∃ (w : World) (tape : Tape) (i : Input), w.os = os ∧ (w.forCall tape i).Shaped C.prog ∧ i.vars = [] ∧ Input.okWide C.prog (w.forCall tape i) .any w.heap.size f i ∧
      ((s.pre enc C.prog fn conds false (w.forCall tape i).memory i.args ∧ laidMetH C.prog laid (w.forCall tape i).memory) ∧ sizedMet enc C.prog fn (OpenSpec.ofChange s) false (w.forCall tape i).memory i.args) ∧ Assume.holds {} C.prog (lone (Frame.enter C.prog f i.args .normal) [] (w.forCall tape i)) :=
  ⟨World.laidAll C.prog os laid, fun _ _ => 0, ⟨#[], args, []⟩, World.laidAll_os _ _ _, World.shaped_of_ZipB hv hr, (Input.okWide_of_okWideB (base := 0) hok).1, (Input.okWide_of_okWideB hok).2,
    ⟨⟨ChangeSpec.pre_of_preB hpre, by rw [MakeChecks.laidMetH_plain _ _ _ hp]; exact laidMet_laidAll _ hf hi⟩, sizedMet_of_sizedB hsz⟩, by
    simp only [Assume.holds]
    exact ⟨by simp, by simp, by simp, by simp, by simp⟩⟩
end Go.Eng
