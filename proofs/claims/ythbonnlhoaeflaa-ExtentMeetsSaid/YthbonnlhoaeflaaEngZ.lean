/-
  The engine, part Z: a law's row out of what is promised of its function.
-/
import Derived.Test.YthbonnlhoaeflaaEngY
set_option linter.unusedVariables false
set_option linter.unusedSimpArgs false
namespace Go.Eng
open Go.RowKit Go.Lib Go.ChangeShapes Go.WideShapes

def isStruct (P : Program) (t : TypeId) : Bool := match P.underlying t with
  | some (.struct _) => true
  | _ => false

/-- The arguments' data, each as a list of cells. -/
def WTargs (P : Program) (n : Nat) : List TypeId → List (List D) → Prop
  | [], [] => True
  | t :: ts, ds :: dss => (∃ l, csOf P n t = some l ∧ WTs l ds) ∧ WTargs P n ts dss
  | _, _ => False

def argS (P : Program) (t : TypeId) (ds : List D) : S := if isStruct P t then .agg (ds.map .d) else .d (ds.headD default)
def argsS (P : Program) : List TypeId → List (List D) → List S
  | t :: ts, ds :: dss => argS P t ds :: argsS P ts dss
  | _, _ => []

theorem WTargs.length {P : Program} {n : Nat} : ∀ {ts : List TypeId} {dss : List (List D)}, WTargs P n ts dss → (argsS P ts dss).length = ts.length
  | [], [], _ => rfl
  | _ :: _, _ :: _, h => by simp only [WTargs] at h; simp [argsS, h.2.length]
  | [], _ :: _, h => by simp [WTargs] at h
  | _ :: _, [], h => by simp [WTargs] at h

section
variable {H : Type} {enc : TypeId × Value → H} {P : Program} {w : World}

theorem cells_of_okWide {t : TypeId} {v : Value} {r : Reach} {b : Nat} (h : Value.okWide P w r b t v) (hs : isStruct P t = false) {n : Nat} {l : List CS} (hc : csOf P n t = some l) : v.cells = #[v] := by
  unfold isStruct at hs
  cases n with
  | zero => simp [csOf] at hc
  | succ n =>
    unfold csOf at hc
    unfold Value.okWide at h
    split at hc <;> rename_i hu <;> (try (rw [hu] at hs; cases hs)) <;> (try cases hc) <;> rw [hu] at h <;> simp only [Cell.okWide, hu, Cell.ok] at h <;> cases v <;> first | rfl | (simp at h)

theorem RepS.of_told {lv : Nat → Option Reg} {t : TypeId} {v : Value} {r : Reach} {b : Nat} (h : Value.okWide P w r b t v) {n : Nat} {l : List CS} (hc : csOf P n t = some l) {ds : List D} (hd : Told w ds v.cells.toList) :
    RepS w (fun b => b < w.heap.size) lv (argS P t ds) v := by
  unfold argS
  by_cases hs : isStruct P t = true
  · rw [if_pos hs]
    unfold isStruct at hs
    split at hs
    · rename_i fs hu
      simp only [Value.okWide, hu] at h
      obtain ⟨cs, rfl, _, _⟩ := h
      have e : (Value.agg cs) = .agg cs.toList.toArray := by simp
      rw [e]
      have hd : Told w ds cs.toList := hd
      refine .agg _ _ (by simp [hd.1]) (fun k u hk => ?_) (fun k s u hk hu => ?_)
      · have : k < ds.length := by rw [hd.1]; exact (List.getElem?_eq_some_iff.1 hk).1
        exact (hd.2 k _ u (List.getElem?_eq_getElem this) hk).2
      · rw [List.getElem?_map] at hk
        obtain ⟨d, hd', rfl⟩ := Option.map_eq_some_iff.1 hk
        exact .d _ _ (hd.2 k d u hd' hu).1
    · cases hs
  · rw [if_neg hs]
    rw [cells_of_okWide h (by simpa using hs) hc] at hd
    match ds, hd with
    | [x1], hd => exact .d _ _ (hd.2 0 x1 v rfl rfl).1
    | [], hd => simpa using hd.1
    | _ :: _ :: _, hd => simpa using hd.1

theorem open_args {lv : Nat → Option Reg} {spare : Nat → Bool} {r : Reach} {b n : Nat} : ∀ {ts : List TypeId} {vs : List Value} {ds : List (DataW H)} {ps : List MemPlace}, DataW.TrodAll enc P w 0 spare true ts vs ds ps →
    (∀ t ∈ ts, (csOf P n t).isSome = true) → (∀ k ∈ DataW.weightsEach P ts ds, k ≤ reachBytes) → (∀ (j : Nat) t v, ts[j]? = some t → vs[j]? = some v → Value.okWide P w r b t v) →
    ∃ dss, WTargs P n ts dss ∧ ∀ (j : Nat) (s : S) (v : Value), (argsS P ts dss)[j]? = some s → vs[j]? = some v → RepS w (fun b => b < w.heap.size) lv s v
  | [], [], [], _, _, _, _, _ => ⟨[], trivial, fun j s v h => by simp [argsS] at h⟩
  | t :: ts, v :: vs, d :: ds, ps, h, hc, hw, hv => by
    obtain ⟨p, q, ⟨fuel, h1⟩, h2, _⟩ := h
    obtain ⟨l, hl⟩ := Option.isSome_iff_exists.1 (hc t (List.mem_cons_self ..))
    obtain ⟨d0, q1, q2⟩ := open_any n t l hl fuel _ _ h1 (fun k hk => hw k (by simp only [DataW.weightsEach, List.mem_append]; exact .inl hk))
    obtain ⟨dss, r1, r2⟩ := open_args h2 (fun t ht => hc t (List.mem_cons_of_mem _ ht)) (fun k hk => hw k (by simp only [DataW.weightsEach, List.mem_append]; exact .inr hk)) (fun j t v h1 h2 => hv (j + 1) t v h1 h2)
    refine ⟨d0 :: dss, ⟨⟨l, hl, q1⟩, r1⟩, fun j s u hs hu => ?_⟩
    cases j with
    | zero =>
      simp only [argsS, List.getElem?_cons_zero, Option.some.injEq] at hs hu
      subst hs; subst hu
      exact RepS.of_told (hv 0 t v rfl rfl) hl q2
    | succ j => exact r2 j s u hs hu
  | [], _ :: _, _, _, h, _, _, _ => by simp [DataW.TrodAll] at h
  | [], [], _ :: _, _, h, _, _, _ => by simp [DataW.TrodAll] at h
  | _ :: _, [], _, _, h, _, _, _ => by simp [DataW.TrodAll] at h
  | _ :: _, _ :: _, [], _, h, _, _, _ => by simp [DataW.TrodAll] at h

theorem trodAll_long {spare : Nat → Bool} {held : Bool} : ∀ {ts : List TypeId} {vs : List Value} {ds : List (DataW H)} {ps : List MemPlace}, DataW.TrodAll enc P w 0 spare held ts vs ds ps → vs.length = ts.length ∧ ds.length = ts.length
  | [], [], [], _, _ => ⟨rfl, rfl⟩
  | _ :: ts, _ :: vs, _ :: ds, _, h => by
    obtain ⟨p, q, _, h2, _⟩ := h
    have := trodAll_long h2
    simp [this.1, this.2]
  | [], _ :: _, _, _, h => by simp [DataW.TrodAll] at h
  | [], [], _ :: _, _, h => by simp [DataW.TrodAll] at h
  | _ :: _, [], _, _, h => by simp [DataW.TrodAll] at h
  | _ :: _, _ :: _, [], _, h => by simp [DataW.TrodAll] at h

theorem trodAll_again (hl : laidOutB P = true) {W W' : World} (hb : Below W.heap.size W W') : ∀ {ts : List TypeId} {vs : List Value} {ds : List (DataW H)} {ps : List MemPlace}, DataW.TrodAll enc P W 0 (fun _ => true) true ts vs ds ps →
    (∀ t ∈ ts, P.readableRec t = true ∧ t < P.types.size) → DataW.TrodAll enc P W' 0 (fun b => decide (b < W.heap.size)) true ts vs ds ps
  | [], [], [], _, h, _ => h
  | t :: ts, v :: vs, d :: ds, ps, h, hr => by
    obtain ⟨p, q, h1, h2, rfl⟩ := h
    have h3 := hr t (List.mem_cons_self ..)
    refine ⟨p, q, Below.trod hl h3.1 h3.2 h1 hb (fun x hx => ?_), trodAll_again hl hb h2 (fun t ht => hr t (List.mem_cons_of_mem _ ht)), rfl⟩
    obtain ⟨fuel, hf⟩ := h1
    exact DataW.trod_lt fuel _ _ _ hf x hx
  | [], _ :: _, _, _, h, _ => by simp [DataW.TrodAll] at h
  | [], [], _ :: _, _, h, _ => by simp [DataW.TrodAll] at h
  | _ :: _, [], _, _, h, _ => by simp [DataW.TrodAll] at h
  | _ :: _, _ :: _, [], _, h, _ => by simp [DataW.TrodAll] at h

theorem Spec.below {f : Nat} {args : List S} {res : S} (hs : Spec P f [] [] args [] res) {vs : List Value} (hl : vs.length = args.length)
    (hv : ∀ (j : Nat) (s : S) (v : Value), args[j]? = some s → vs[j]? = some v → RepS w (fun b => b < w.heap.size) (fun _ => none) s v) :
    Calls P f vs.toArray w fun e w' => ∃ v ok' lv', e = .returned v ∧ RepS w' ok' lv' res v ∧ Below w.heap.size w w' := by
  have hin : InRel w (fun b => b < w.heap.size) (fun _ => none) (hget []) :=
    ⟨fun id ob h => by simp [hget] at h, fun _ _ => rfl, fun i j oi oj ri rj b h => by simp [hget] at h, fun _ h => h, fun b id ob r _ h => by simp [hget] at h⟩
  refine (hs w _ _ vs hin hl hv).mono fun e w' h => ?_
  obtain ⟨v, ok', lv', rfl, h1, h2⟩ := h
  exact ⟨v, ok', lv', rfl, h1, h2.os, h2.tape, h2.output, h2.size, fun k hk => h2.block k hk (by rintro ⟨i, ob, r, h, _⟩; simp [hget] at h)⟩

/-- **A law's row, out of what is promised of its function**: at whatever data of the arguments' types it answers true, and brings nothing and leaves nothing. -/
theorem law_lifted {C : Checked} {os : Os} (started : os.Started) {n : FuncId} {fn : Func} {s : ChangeSpec} {conds : List PathCond} {rt : TypeId} (m : Nat)
    (own : ownKnob C.prog.godebug = none) (hlaid : laidOutB C.prog = true) (noInit : C.prog.inits.idxOf? n = none) (hfn : C.prog.funcs[n]? = some fn)
    (witness : ∃ (w : World) (tape : Tape) (i : Input), w.os = os ∧ (w.forCall tape i).Shaped C.prog ∧ i.vars = [] ∧ Input.okWide C.prog (w.forCall tape i) .any w.heap.size n i ∧
      s.pre6 enc C.prog fn conds false (w.forCall tape i).memory i.args ∧ Assume.holds {} C.prog (lone (Frame.enter C.prog n i.args .normal) [] (w.forCall tape i)))
    (hr : fn.resultTypes = #[rt]) (hrt : C.prog.underlying rt = some .bool) (hvars : s.vars = [])
    (hread' : fn.params.toList.all (fun t => C.prog.readableRec t && decide (t < C.prog.types.size)) = true) (hcs' : fn.params.toList.all (fun t => (csOf C.prog m t).isSome) = true)
    (hsp : ∀ ds : List (DataW H), ds.length = fn.params.toList.length → s.fn H ds = { results := [.lit (.bool true)], args := ds })
    (spec : ∀ dss, WTargs C.prog m fn.params.toList dss → Spec C.prog n [] [] (argsS C.prog fn.params.toList dss) [] (.d (.v (.bool true)))) :
    ReturnsInHanded {} C os n .any (s.pre6 enc C.prog fn conds false) (s.post enc C.prog fn false true false false) := by
  have hread : ∀ t ∈ fn.params.toList, C.prog.readableRec t = true ∧ t < C.prog.types.size := fun t ht => by simpa using List.all_eq_true.1 hread' t ht
  have hcs : ∀ t ∈ fn.params.toList, (csOf C.prog m t).isSome = true := fun t ht => List.all_eq_true.1 hcs' t ht
  refine returnsInHanded_of_change_sized own started noInit hfn witness ?_
  intro W base args ds gs before hval hW hcnd hsz _
  have hW' := hW
  obtain ⟨p, q, hA, hV, rfl, hfz, hnd⟩ := hW
  rw [hvars] at hV
  obtain ⟨rfl, rfl⟩ := trodVars_none hV
  obtain ⟨hl1, hl2⟩ := trodAll_long hA
  obtain ⟨dss, h1, h2⟩ := open_args (lv := fun _ => none) (n := m) (r := .any) (b := base) hA hcs (fun k hk => by
    have hk' : k ∈ DataW.weightsEach C.prog (fn.params.toList ++ s.plain.varTypes C.prog) (ds ++ []) := by
      have e : s.plain.varTypes C.prog = [] := by
        have : s.plain.vars = [] := hvars
        simp [DataSpec.varTypes, this]
      rw [e, List.append_nil, List.append_nil]; exact hk
    simpa using List.all_eq_true.1 hsz k hk') (fun j t v ht hv => hval j t v (by simpa using ht) (by simpa using hv))
  refine ((spec dss h1).below (vs := args.toList) (by rw [h1.length, hl1]) h2).mono fun e W' h => ?_
  obtain ⟨v, ok', lv', rfl, hrep, bel⟩ := h
  have hv := hrep.dv
  subst hv
  have hs := hsp (ds ++ []) (by rw [List.append_nil]; exact hl2)
  rw [List.append_nil] at hs
  refine ⟨_, rfl, ds, [], p ++ [], [], p, [], hW', ?_, ?_, ?_, bel.frame _, fun h => by cases h⟩
  · rw [List.append_nil, hs, hr]
    exact trodAll_mk1 (shut_bool hrt _)
  · rw [List.append_nil, hs]
    exact trodAll_again hlaid bel hA hread
  · rw [List.append_nil, hs, hvars]
    rfl
end

theorem WT.int {k : IntKind} {d : D} (h : WT (.int k) d) : ∃ n, d = .v (.int k n) ∧ k.min ≤ n ∧ n ≤ k.max := by
  match d, h with
  | .v (.int k' n), h =>
    simp only [WT, Lit.wf, Bool.and_eq_true, decide_eq_true_eq] at h
    obtain ⟨rfl, h1, h2⟩ := h
    exact ⟨n, rfl, h1, h2⟩
theorem WT.bool {d : D} (h : WT .bool d) : ∃ b, d = .v (.bool b) := by
  match d, h with
  | .v (.bool b), _ => exact ⟨b, rfl⟩
theorem WT.str {d : D} (h : WT .str d) : ∃ s : ByteArray, d = .v (.string s) ∧ s.size ≤ 140737488351232 := by
  match d, h with
  | .v (.string b), h => exact ⟨b, rfl, by simpa [WT, reachBytes] using h⟩
/-- A slice of structs (or numbers, ..): its rows as the image of a list. -/
theorem WT.sl {B : Nat} {cs : List CS} {d : D} (h : WT (.sl B cs) d) : ∃ rows, d = .sl cs.length rows ∧ rows.length * B ≤ 140737488351232 ∧ ∀ r ∈ rows, WTs cs r := by
  match d, h with
  | .sl sz rows, h =>
    simp only [WT] at h
    obtain ⟨rfl, h1, h2⟩ := h
    exact ⟨rows, rfl, by simpa [reachBytes] using h1, h2⟩
theorem WTs.one {c : CS} {ds : List D} (h : WTs [c] ds) : ∃ d, ds = [d] ∧ WT c d := by
  match ds, h with
  | [d], h => exact ⟨d, rfl, h.1⟩
theorem image_of {α : Type} {f : α → List D} {p : α → Prop} : ∀ {rows : List (List D)}, (∀ r ∈ rows, ∃ x, r = f x ∧ p x) → ∃ l : List α, rows = l.map f ∧ ∀ x ∈ l, p x
  | [], _ => ⟨[], rfl, by simp⟩
  | r :: rows, h => by
    obtain ⟨x, e, hx⟩ := h r (List.mem_cons_self ..)
    obtain ⟨l, e', hl⟩ := image_of (fun r hr => h r (List.mem_cons_of_mem _ hr))
    subst e; subst e'
    exact ⟨x :: l, rfl, by simpa using ⟨hx, hl⟩⟩
theorem WT.slI {B : Nat} {k : IntKind} {d : D} (h : WT (.sl B [.int k]) d) : ∃ l : List Int, d = .sl 1 (rK k l) ∧ l.length * B ≤ 140737488351232 ∧ ∀ x ∈ l, k.min ≤ x ∧ x ≤ k.max := by
  obtain ⟨rows, rfl, h1, h2⟩ := h.sl
  obtain ⟨l, e, hl⟩ := image_of (f := fun x => [D.v (.int k x)]) (p := fun x => k.min ≤ x ∧ x ≤ k.max) (rows := rows) (fun r hr => by
    obtain ⟨d, rfl, hd⟩ := (h2 r hr).one
    obtain ⟨n, rfl, h3⟩ := hd.int
    exact ⟨n, rfl, h3⟩)
  refine ⟨l, ?_, ?_, hl⟩
  · rw [e]; rfl
  · rw [e] at h1; simpa using h1
end Go.Eng
