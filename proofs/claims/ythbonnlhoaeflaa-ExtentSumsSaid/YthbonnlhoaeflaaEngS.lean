/-
  The engine, part S: the rules by which simp carries a body out on a written state, and where simp is not to look.
-/
import Derived.Test.YthbonnlhoaeflaaEngR
import Derived.IntWalk
set_option linter.unusedVariables false
set_option linter.unusedSimpArgs false
namespace Go.Eng
open Go.RowKit Go.Lib

/-- A mark, by which simp is told to look here and nowhere else. -/
def mark {α : Type} (x : α) : α := x
theorem mark_eq {α : Type} (x : α) : mark x = x := by
  cases (true : Bool) <;> (unfold mark; rfl)

def guardW (x : S) (want : Bool) (A B C : Prop) : Prop := match x with
  | .d (.v (.bool b)) => (b = want → A) ∧ (b = !want → B)
  | .d (.v (.tuple a)) => a = #[] ∧ C
  | _ => False
def someW {α : Type} (o : Option α) (K : α → Prop) : Prop := match o with
  | some x => K x
  | none => False

/-- A statement in the text's order, as the body holds it. -/
def go0 (P : Program) (l : List (LI × List Nat)) (st : St) (K : St → Prop) : Prop := run0 P (l.map (·.1)) st K
theorem go0_nil {P : Program} {st : St} {K : St → Prop} : go0 P [] st K = K st := rfl
theorem go0_cons {P : Program} {d : Option Nat} {op : LOp} {un : List Nat} {r : List (LI × List Nat)} {st : St} {K : St → Prop} :
    go0 P ((⟨d, none, op⟩, un) :: r) st K = doW P (d.getD 0) op st fun u => go0 P r (st.app d u) K := rfl
theorem go0_guard {P : Program} {d : Option Nat} {t : Nat} {want : Bool} {op : LOp} {un : List Nat} {r : List (LI × List Nat)} {st : St} {K : St → Prop} :
    go0 P ((⟨d, some (t, want), op⟩, un) :: r) st K = guardW (get st.s t) want (doW P (d.getD 0) op ⟨(t, vB want) :: st.s, st.h⟩ fun u => go0 P r (St.app ⟨(t, vB want) :: st.s, st.h⟩ d u) K) (go0 P r (St.app ⟨(t, vB !want) :: st.s, st.h⟩ d ⟨.d (.v undef), []⟩) K) (go0 P r (St.app st d ⟨.d (.v undef), []⟩) K) := by
  simp only [go0, List.map_cons, run0, stepW, guardW]
  generalize get st.s t = x
  rcases x with (v | _) | _ | _ | _ | _ | _ | _
  · cases v <;> rfl
  all_goals rfl

/-- A statement that draws its order. -/
def go1 (P : Program) (l : List (LI × List Nat)) (st : St) (tr : List (List Nat × List Nat)) (K : St → Prop) : Prop := run1 P l st tr K
def chkW (un : List Nat) (tr : List (List Nat × List Nat)) (t : List Nat × List Nat) (X : Prop) : Prop := (un.all fun i => apartW (tr.getD i ([], [])) t) = true ∧ X
theorem go1_nil {P : Program} {st : St} {tr : List (List Nat × List Nat)} {K : St → Prop} : go1 P [] st tr K = K st := rfl
theorem go1_cons {P : Program} {d : Option Nat} {op : LOp} {un : List Nat} {r : List (LI × List Nat)} {st : St} {tr : List (List Nat × List Nat)} {K : St → Prop} :
    go1 P ((⟨d, none, op⟩, un) :: r) st tr K = doT P (d.getD 0) op st fun u T => chkW un tr (u.wr.map (·.1), T) (go1 P r (st.app d u) (tr ++ [(u.wr.map (·.1), T)]) K) := rfl
theorem go1_guard {P : Program} {d : Option Nat} {t : Nat} {want : Bool} {op : LOp} {un : List Nat} {r : List (LI × List Nat)} {st : St} {tr : List (List Nat × List Nat)} {K : St → Prop} :
    go1 P ((⟨d, some (t, want), op⟩, un) :: r) st tr K = guardW (get st.s t) want (doT P (d.getD 0) op ⟨(t, vB want) :: st.s, st.h⟩ fun u T => chkW un tr (u.wr.map (·.1), T) (go1 P r (St.app ⟨(t, vB want) :: st.s, st.h⟩ d u) (tr ++ [(u.wr.map (·.1), T)]) K))
      (chkW un tr ([], []) (go1 P r (St.app ⟨(t, vB !want) :: st.s, st.h⟩ d ⟨.d (.v undef), []⟩) (tr ++ [([], [])]) K))
      (chkW un tr ([], []) (go1 P r (St.app st d ⟨.d (.v undef), []⟩) (tr ++ [([], [])]) K)) := by
  simp only [go1, run1, stepT, guardW, chkW, List.map_nil]
  generalize get st.s t = x
  rcases x with (v | _) | _ | _ | _ | _ | _ | _
  · cases v <;> rfl
  all_goals rfl

theorem vc_skip {P : Program} {p : List Nat} {st : St} {Q : Exit → St → Prop} : vc P p .skip st Q = Q .normal st := rfl
theorem vc_reg0 {P : Program} {p : List Nat} {ops : List (LI × List Nat)} {k : Option Kp} {st : St} {Q : Exit → St → Prop} : vc P p (.reg false ops k) st Q = go0 P ops st fun st' => Q .normal (St.normO p st' k) := rfl
theorem vc_reg1 {P : Program} {p : List Nat} {ops : List (LI × List Nat)} {k : Option Kp} {st : St} {Q : Exit → St → Prop} : vc P p (.reg true ops k) st Q = go1 P ops st [] fun st' => Q .normal (St.normO p st' k) := rfl
theorem vc_seq {P : Program} {p : List Nat} {a b : LC} {st : St} {Q : Exit → St → Prop} : vc P p (.seq a b) st Q = vc P p a st (Kseq (fun st' => vc P p b st' Q) Q) := rfl
theorem vc_cond {P : Program} {p : List Nat} {c : LA} {a b : LC} {st : St} {Q : Exit → St → Prop} : vc P p (.cond c a b) st Q = condW (evalA (get st.s) c) (vc P p a st Q) (vc P p b st Q) := rfl
theorem vc_block {P : Program} {p : List Nat} {id : Nat} {b : LC} {st : St} {Q : Exit → St → Prop} : vc P p (.block id b) st Q = vc P p b st (Kblock id Q) := rfl
theorem vc_exit {P : Program} {p : List Nat} {id : Nat} {st : St} {Q : Exit → St → Prop} : vc P p (.exit id) st Q = Q (.exit id) st := rfl
theorem vc_label {P : Program} {p : List Nat} {st : St} {Q : Exit → St → Prop} : vc P p .label st Q = ∃ st', LE p st st' ∧ Q .normal st' := rfl
theorem vc_goto {P : Program} {p : List Nat} {l : Nat} {st : St} {Q : Exit → St → Prop} : vc P p (.goto l) st Q = Q (.goto l) st := rfl
theorem vc_ret {P : Program} {p : List Nat} {st : St} {Q : Exit → St → Prop} : vc P p .ret st Q = Q .ret st := rfl

theorem vc_loop {P : Program} {p : List Nat} {b : LC} {st : St} {Q : Exit → St → Prop} {α : Type} (I : α → St) (G : α → Prop) (μ : α → Nat) (x0 : α) (h0 : G x0) (h1 : LE p st (I x0)) (h2 : ∀ x, G x → vc P p b (I x) (Kloop p I G μ (μ x) Q)) : vc P p (.loop b) st Q :=
  ⟨α, I, G, μ, ⟨x0, h0, h1⟩, h2⟩
theorem vc_scope {P : Program} {p : List Nat} {lab : Nat} {b r : LC} {st : St} {Q : Exit → St → Prop} {α : Type} (I : α → St) (G : α → Prop) (μ : α → Nat) (h1 : vc P p b st (Kgoto0 p lab I G Q)) (h2 : ∀ x, G x → vc P p r (I x) (Kgoto p lab I G μ (μ x) Q)) : vc P p (.scope lab b r) st Q :=
  ⟨α, I, G, μ, h1, h2⟩

/-- A call in a statement that draws its order. -/
def callLT (P : Program) (f : Nat) (xs : List S) (h : List (Nat × Ob)) (K : U → List Nat → Prop) : Prop :=
  ∃ pins hA fargs hB res σ keep L gone, Eng.Spec P f pins hA fargs hB res ∧ CallOk (hget h) xs pins hA fargs hB res σ keep L gone ∧ K ⟨renS (only σ (hget hB)) (gmOf (hget h) pins σ) res, wrN (hget h) pins hB σ gone⟩ (callT (hget h) xs hA hB σ gone)
theorem callLT_of {P : Program} {f : Nat} {xs : List S} {h : List (Nat × Ob)} {K : U → List Nat → Prop} {pins : List Nat} {hA : List (Nat × Ob)} {args : List S} {hB : List (Nat × Ob)} {res : S} (hS : Eng.Spec P f pins hA args hB res) (l : List (Nat × Nat)) (keep : Bool) (L gone : List Nat)
    (C : CallOk (hget h) xs pins hA args hB res (sg l) keep L gone) (hK : K ⟨renS (only (sg l) (hget hB)) (gmOf (hget h) pins (sg l)) res, wrN (hget h) pins hB (sg l) gone⟩ (callT (hget h) xs hA hB (sg l) gone)) : callLT P f xs h K :=
  ⟨pins, hA, args, hB, res, sg l, keep, L, gone, hS, C, hK⟩
theorem callLT_congr {P : Program} {f : Nat} {xs xs' : List S} {h h' : List (Nat × Ob)} {K : U → List Nat → Prop} (e1 : mark xs = xs') (e2 : mark h = h') : callLT P f xs h K = callLT P f xs' h' K := by simp only [mark_eq] at e1 e2; rw [e1, e2]
attribute [congr] callLT_congr

/-! where simp looks -/
theorem vc_congr {P : Program} {p : List Nat} {l : LC} {st st' : St} {Q : Exit → St → Prop} (h : mark st = st') : vc P p l st Q = vc P p l st' Q := by simp only [mark_eq] at h; rw [h]
theorem go0_congr {P : Program} {l : List (LI × List Nat)} {st st' : St} {K : St → Prop} (h : mark st = st') : go0 P l st K = go0 P l st' K := by simp only [mark_eq] at h; rw [h]
theorem go1_congr {P : Program} {l : List (LI × List Nat)} {st st' : St} {tr tr' : List (List Nat × List Nat)} {K : St → Prop} (h : mark st = st') (h2 : mark tr = tr') : go1 P l st tr K = go1 P l st' tr' K := by simp only [mark_eq] at h h2; rw [h, h2]
theorem chkW_congr {un : List Nat} {tr tr' : List (List Nat × List Nat)} {t t' : List Nat × List Nat} {X : Prop} (h : mark tr = tr') (h2 : mark t = t') : chkW un tr t X = chkW un tr' t' X := by simp only [mark_eq] at h h2; rw [h, h2]
theorem condW_congr {c c' : S} {T F : Prop} (h : mark c = c') : condW c T F = condW c' T F := by simp only [mark_eq] at h; rw [h]
theorem guardW_congr {c c' : S} {w : Bool} {T F C : Prop} (h : mark c = c') : guardW c w T F C = guardW c' w T F C := by simp only [mark_eq] at h; rw [h]
theorem someW_congr {α : Type} {o o' : Option α} {K : α → Prop} (h : mark o = o') : someW o K = someW o' K := by simp only [mark_eq] at h; rw [h]
theorem doW_congr {P : Program} {d : Nat} {L : LOp} {st st' : St} {K : U → Prop} (h : mark st = st') : doW P d L st K = doW P d L st' K := by simp only [mark_eq] at h; rw [h]
theorem doT_congr {P : Program} {d : Nat} {L : LOp} {st st' : St} {K : U → List Nat → Prop} (h : mark st = st') : doT P d L st K = doT P d L st' K := by simp only [mark_eq] at h; rw [h]
theorem Kseq_congr {k : St → Prop} {Q : Exit → St → Prop} {e : Exit} {st st' : St} (h : mark st = st') : Kseq k Q e st = Kseq k Q e st' := by simp only [mark_eq] at h; rw [h]
theorem Kblock_congr {id : Nat} {Q : Exit → St → Prop} {e : Exit} {st st' : St} (h : mark st = st') : Kblock id Q e st = Kblock id Q e st' := by simp only [mark_eq] at h; rw [h]
def callL (P : Program) (f : Nat) (xs : List S) (h : List (Nat × Ob)) (K : U → Prop) : Prop := callW P f xs (hget h) K
theorem callL_congr {P : Program} {f : Nat} {xs xs' : List S} {h h' : List (Nat × Ob)} {K : U → Prop} (e1 : mark xs = xs') (e2 : mark h = h') : callL P f xs h K = callL P f xs' h' K := by simp only [mark_eq] at e1 e2; rw [e1, e2]
theorem callL_of {P : Program} {f : Nat} {xs : List S} {h : List (Nat × Ob)} {K : U → Prop} {pins : List Nat} {hA : List (Nat × Ob)} {args : List S} {hB : List (Nat × Ob)} {res : S} (hS : Eng.Spec P f pins hA args hB res) (l : List (Nat × Nat)) (keep : Bool) (L gone : List Nat)
    (C : CallOk (hget h) xs pins hA args hB res (sg l) keep L gone) (hK : K ⟨renS (only (sg l) (hget hB)) (gmOf (hget h) pins (sg l)) res, wrN (hget h) pins hB (sg l) gone⟩) : callL P f xs h K := callW_of hS l keep L gone C hK
theorem binOpW_congr {op : BinOp} {x x' y y' : S} {K : U → Prop} (h1 : mark x = x') (h2 : mark y = y') : binOpW op x y K = binOpW op x' y' K := by simp only [mark_eq] at h1 h2; rw [h1, h2]
theorem binW_congr {op : BinOp} {x x' y y' : Value} {K : Value → Prop} (h1 : mark x = x') (h2 : mark y = y') : binW op x y K = binW op x' y' K := by simp only [mark_eq] at h1 h2; rw [h1, h2]
theorem unOpW_congr {op : UnOp} {x x' : S} {K : U → Prop} (h1 : mark x = x') : unOpW op x K = unOpW op x' K := by simp only [mark_eq] at h1; rw [h1]
theorem unW_congr {op : UnOp} {x x' : Value} {K : Value → Prop} (h1 : mark x = x') : unW op x K = unW op x' K := by simp only [mark_eq] at h1; rw [h1]
theorem pickW_congr {c c' a b : S} {K : U → Prop} (h1 : mark c = c') : pickW c a b K = pickW c' a b K := by simp only [mark_eq] at h1; rw [h1]
theorem eqbW_congr {n : Bool} {x x' y y' : S} {K : U → Prop} (h1 : mark x = x') (h2 : mark y = y') : eqbW n x y K = eqbW n x' y' K := by simp only [mark_eq] at h1 h2; rw [h1, h2]
theorem eqpW_congr {n : Bool} {x x' : A} {y y' : S} {K : U → Prop} (h1 : mark x = x') (h2 : mark y = y') : eqpW n x y K = eqpW n x' y' K := by simp only [mark_eq] at h1 h2; rw [h1, h2]
theorem eqsW_congr {n : Bool} {ks : List Nat} {x x' y y' : S} {K : U → Prop} (h1 : mark x = x') (h2 : mark y = y') : eqsW n ks x y K = eqsW n ks x' y' K := by simp only [mark_eq] at h1 h2; rw [h1, h2]
theorem fuW_congr {o : FU} {x x' : S} {K : U → Prop} (h1 : mark x = x') : fuW o x K = fuW o x' K := by simp only [mark_eq] at h1; rw [h1]
theorem fcxW_congr {x x' y y' : S} {K : U → Prop} (h1 : mark x = x') (h2 : mark y = y') : fcxW x y K = fcxW x' y' K := by simp only [mark_eq] at h1 h2; rw [h1, h2]
attribute [congr] fuW_congr fcxW_congr
theorem toIntW_congr {k : IntKind} {x x' : S} {K : U → Prop} (h1 : mark x = x') : toIntW k x K = toIntW k x' K := by simp only [mark_eq] at h1; rw [h1]
theorem nilckW_congr {x x' : A} {K : U → Prop} (h1 : mark x = x') : nilckW x K = nilckW x' K := by simp only [mark_eq] at h1; rw [h1]
theorem toStrW_congr {x x' : A} {K : U → Prop} (h1 : mark x = x') : toStrW x K = toStrW x' K := by simp only [mark_eq] at h1; rw [h1]
theorem mkslW_congr {d g sz b : Nat} {z : List Value} {x x' y y' : S} {K : U → Prop} (h1 : mark x = x') (h2 : mark y = y') : mkslW d g sz b z x y K = mkslW d g sz b z x' y' K := by simp only [mark_eq] at h1 h2; rw [h1, h2]
theorem copyW_congr {sz : Nat} {x x' y y' : A} {K : U → Prop} (h1 : mark x = x') (h2 : mark y = y') : copyW sz x y K = copyW sz x' y' K := by simp only [mark_eq] at h1 h2; rw [h1, h2]
theorem mmW_congr {m : Bool} {x x' y y' : S} {K : U → Prop} (h1 : mark x = x') (h2 : mark y = y') : mmW m x y K = mmW m x' y' K := by simp only [mark_eq] at h1 h2; rw [h1, h2]
theorem takeW_congr {n : Nat} {g : Bool} {cs cs' : List S} {K : U → Prop} (h : mark cs = cs') : takeW n g cs K = takeW n g cs' K := by simp only [mark_eq] at h; rw [h]
theorem loadW_congr {n : Nat} {g : Bool} {x x' : A} {K : U → Prop} (h : mark x = x') : loadW n g x K = loadW n g x' K := by simp only [mark_eq] at h; rw [h]
theorem storeW_congr {n : Nat} {x x' y y' : A} {K : U → Prop} (h1 : mark x = x') (h2 : mark y = y') : storeW n x y K = storeW n x' y' K := by simp only [mark_eq] at h1 h2; rw [h1, h2]
theorem iadW_congr {n : Nat} {x x' y y' : A} {K : U → Prop} (h1 : mark x = x') (h2 : mark y = y') : iadW n x y K = iadW n x' y' K := by simp only [mark_eq] at h1 h2; rw [h1, h2]
theorem ixsW_congr {x x' y y' : A} {K : U → Prop} (h1 : mark x = x') (h2 : mark y = y') : ixsW x y K = ixsW x' y' K := by simp only [mark_eq] at h1 h2; rw [h1, h2]
theorem fadW_congr {n : Nat} {x x' : A} {K : U → Prop} (h : mark x = x') : fadW n x K = fadW n x' K := by simp only [mark_eq] at h; rw [h]
theorem fldW_congr {o n : Nat} {g : Bool} {x x' : A} {K : U → Prop} (h : mark x = x') : fldW o n g x K = fldW o n g x' K := by simp only [mark_eq] at h; rw [h]
theorem extW_congr {n : Nat} {x x' : A} {K : U → Prop} (h : mark x = x') : extW n x K = extW n x' K := by simp only [mark_eq] at h; rw [h]
theorem boundsW_congr {n n' : Nat} {x x' y y' : Option A} {K : Nat → Nat → Prop} (h : mark n = n') (h1 : mark x = x') (h2 : mark y = y') : boundsW n x y K = boundsW n' x' y' K := by simp only [mark_eq] at h h1 h2; rw [h, h1, h2]
theorem slcW_congr {n : Nat} {w w' : A} {x x' y y' : Option A} {K : U → Prop} (h : mark w = w') (h1 : mark x = x') (h2 : mark y = y') : slcW n w x y K = slcW n w' x' y' K := by simp only [mark_eq] at h h1 h2; rw [h, h1, h2]
theorem slcsW_congr {w w' : A} {x x' y y' : Option A} {K : U → Prop} (h : mark w = w') (h1 : mark x = x') (h2 : mark y = y') : slcsW w x y K = slcsW w' x' y' K := by simp only [mark_eq] at h h1 h2; rw [h, h1, h2]
theorem lenW_congr {x x' : A} {K : U → Prop} (h : mark x = x') : lenW x K = lenW x' K := by simp only [mark_eq] at h; rw [h]
theorem lenSW_congr {x x' : S} {K : U → Prop} (h : mark x = x') : lenSW x K = lenSW x' K := by simp only [mark_eq] at h; rw [h]
theorem appW_congr {d g g' sz b : Nat} {x x' : A} {n n' : Option (List (List D))} {K : U → Prop} (h0 : mark g = g') (h : mark x = x') (h1 : mark n = n') : appW d g sz b x n K = appW d g' sz b x' n' K := by simp only [mark_eq] at h0 h h1; rw [h0, h, h1]
attribute [congr] vc_congr go0_congr go1_congr chkW_congr condW_congr guardW_congr someW_congr doW_congr doT_congr Kseq_congr Kblock_congr callL_congr binOpW_congr binW_congr unOpW_congr unW_congr pickW_congr eqbW_congr eqpW_congr eqsW_congr toIntW_congr nilckW_congr toStrW_congr mkslW_congr copyW_congr mmW_congr takeW_congr loadW_congr storeW_congr iadW_congr ixsW_congr fadW_congr fldW_congr extW_congr boundsW_congr slcW_congr slcsW_congr lenW_congr lenSW_congr appW_congr

section
variable {P : Program} {d : Nat} {st : St} {K : U → Prop}
def ea (st : St) (x : LA) : S := evalA (get st.s) x
def eb (st : St) (x : LA) : A := att (hget st.h) (evalA (get st.s) x)
theorem ea_t {s : List (Nat × S)} {h : List (Nat × Ob)} {i : Nat} : ea ⟨s, h⟩ (.t i) = get s i := rfl
theorem ea_f {st : St} {g : Nat} : ea st (.f g) = .d (.v (.func (.func g) #[] #[])) := rfl
theorem ea_c {st : St} {v : Value} : ea st (.c v) = .d (.v v) := rfl
theorem eb_t {s : List (Nat × S)} {h : List (Nat × Ob)} {i : Nat} : eb ⟨s, h⟩ (.t i) = att (hget h) (get s i) := rfl
theorem eb_c {st : St} {v : Value} : eb st (.c v) = (.d (.v v), []) := rfl
theorem att_d {h : Nat → Option Ob} {x : D} : att h (.d x) = (.d x, []) := rfl
theorem att_pat {h : Nat → Option Ob} {x : List D} : att h (.pat x) = (.pat x, []) := rfl
theorem att_any {h : Nat → Option Ob} : att h .any = (.any, []) := rfl
theorem att_tup {h : Nat → Option Ob} {x : List S} : att h (.tup x) = (.tup x, []) := rfl
theorem att_view {h : Nat → Option Ob} {i g o l : Nat} : att h (.view i g o l) = (.view i g o l, [h i]) := rfl
theorem att_ptr {h : Nat → Option Ob} {i g o l : Nat} : att h (.ptr i g o l) = (.ptr i g o l, [h i]) := rfl
theorem att_agg {h : Nat → Option Ob} {cs : List S} : att h (.agg cs) = (.agg cs, (cs.flatMap cellRefs).map h) := rfl
theorem get_cons' {l : List (Nat × S)} {t u : Nat} {x : S} : get ((t, x) :: l) u = if t = u then x else get l u := rfl
theorem get_nil' {u : Nat} : get [] u = .any := rfl
theorem hget_cons' {l : List (Nat × Ob)} {t u : Nat} {x : Ob} : hget ((t, x) :: l) u = if t = u then some x else hget l u := rfl
theorem hget_nil' {u : Nat} : hget [] u = none := rfl
theorem hset_cons' {l : List (Nat × Ob)} {t u : Nat} {x y : Ob} : hset ((t, x) :: l) u y = if t = u then (u, y) :: l else (t, x) :: hset l u y := rfl
theorem hset_nil' {u : Nat} {y : Ob} : hset [] u y = [(u, y)] := rfl
theorem wrL_nil' {h : List (Nat × Ob)} : wrL h [] = h := rfl
theorem wrL_cons' {h r : List (Nat × Ob)} {t : Nat} {x : Ob} : wrL h ((t, x) :: r) = wrL (hset h t x) r := rfl
theorem app_some {s : List (Nat × S)} {h w : List (Nat × Ob)} {d : Nat} {v : S} : St.app ⟨s, h⟩ (some d) ⟨v, w⟩ = ⟨(d, v) :: s, wrL h w⟩ := rfl
theorem app_none {s : List (Nat × S)} {h w : List (Nat × Ob)} {v : S} : St.app ⟨s, h⟩ none ⟨v, w⟩ = ⟨s, wrL h w⟩ := rfl
theorem norm_none {p : List Nat} {st : St} : St.normO p st none = st := rfl
theorem norm_some {p k : List Nat} {g : List Gh} {s : List (Nat × S)} {h : List (Nat × Ob)} : St.normO p ⟨s, h⟩ (some (k, g)) =
    St.ghs ⟨k.map fun t => (t, clean2 p (kpOf ((k.flatMap fun t => (get s t).refs2) ++ h.flatMap fun p => boxRefs p.2.body)) (hget h) (get s t)), normH p (kpOf ((k.flatMap fun t => (get s t).refs2) ++ h.flatMap fun p => boxRefs p.2.body)) (hget h) h⟩ g := rfl
theorem ghs_nil {st : St} : St.ghs st [] = st := rfl
theorem ghs_cons {st : St} {g : Gh} {r : List Gh} : St.ghs st (g :: r) = St.ghs (St.gh st g) r := rfl
theorem nextGen_none : nextGen none = 0 := rfl
theorem nextGen_some {g : Nat} {b : Body} : nextGen (some ⟨g, b⟩) = g + 1 := rfl

theorem do_mv {x : LA} : doW P d (.mv x) st K = K ⟨ea st x, []⟩ := rfl
theorem do_pick {c a b : LA} : doW P d (.pick c a b) st K = pickW (ea st c) (ea st a) (ea st b) K := rfl
theorem do_alloc {z : List Value} : doW P d (.alloc z) st K = K ⟨.ptr d (nextGen (hget st.h d)) 0 0, [(d, ⟨nextGen (hget st.h d), .box (z.map fun v => .d (.v v))⟩)]⟩ := rfl
theorem do_box {n : Nat} {x : LA} : doW P d (.box n x) st K = ((ea st x).cellsOf.length = n ∧ (ea st x).cellsOf.all S.one = true ∧ K ⟨.ptr d (nextGen (hget st.h d)) 0 0, [(d, ⟨nextGen (hget st.h d), .box (ea st x).cellsOf⟩)]⟩) := rfl
theorem do_build {z : List Value} {p : List (Nat × Nat × LA)} : doW P d (.build z p) st K = someW (buildCells (eb st) p (z.map fun v => .d (.v v))) fun cs => K ⟨.agg cs, []⟩ := by
  show (match buildCells (eb st) p (z.map fun v => .d (.v v)) with | some cs => _ | none => False) = _
  unfold someW
  cases buildCells (eb st) p (z.map fun v => .d (.v v)) <;> rfl
theorem do_bslice {sz len : Nat} {z : List Value} {p : List (Nat × LA)} : doW P d (.bslice sz len z p) st K = someW (bsRows (eb st) sz p (List.replicate len (z.map .v))) fun q => (q.2.map (·.1)).Nodup ∧ d ∉ q.2.map (·.1) ∧ K ⟨.view d (nextGen (hget st.h d)) 0 len, q.2 ++ [(d, ⟨nextGen (hget st.h d), .arr sz q.1⟩)]⟩ := by
  show (match bsRows (eb st) sz p (List.replicate len (z.map .v)) with | some (rows, ws) => _ | none => False) = _
  unfold someW
  cases bsRows (eb st) sz p (List.replicate len (z.map .v)) <;> rfl
theorem do_load {n : Nat} {g : Bool} {x : LA} : doW P d (.load n g x) st K = loadW n g (eb st x) K := rfl
theorem do_store {n : Nat} {x y : LA} : doW P d (.store n x y) st K = storeW n (eb st x) (eb st y) K := rfl
theorem do_nilck {x : LA} : doW P d (.nilck x) st K = nilckW (eb st x) K := rfl
theorem do_bin {o : BinOp} {x y : LA} : doW P d (.bin o x y) st K = binOpW o (ea st x) (ea st y) K := rfl
theorem do_eqb {n : Bool} {x y : LA} : doW P d (.eqb n x y) st K = eqbW n (ea st x) (ea st y) K := rfl
theorem do_eqp {n : Bool} {x y : LA} : doW P d (.eqp n x y) st K = eqpW n (eb st x) (ea st y) K := rfl
theorem do_eqs {n : Bool} {ks : List Nat} {x y : LA} : doW P d (.eqs n ks x y) st K = eqsW n ks (ea st x) (ea st y) K := rfl
theorem do_un {o : UnOp} {x : LA} : doW P d (.un o x) st K = unOpW o (ea st x) K := rfl
theorem do_toInt {k : IntKind} {x : LA} : doW P d (.toInt k x) st K = toIntW k (ea st x) K := rfl
theorem do_slc0 {sz : Nat} {x : LA} : doW P d (.slc0 sz x) st K = slc0W d (nextGen (hget st.h d)) sz (eb st x) K := rfl
def callvL (P : Program) (y : S) (xs : List S) (h : List (Nat × Ob)) (K : U → Prop) : Prop := callvW P y xs (hget h) K
theorem do_callv {x : LA} {as : List LA} : doW P d (.callv x as) st K = callvL P (ea st x) (as.map (ea st)) st.h K := rfl
theorem w_callv {f : Nat} {xs : List S} {h : List (Nat × Ob)} : callvL P (.d (.v (.func (.func f) #[] #[]))) xs h K = (callable P f = true ∧ callL P f xs h K) := by
  apply propext
  constructor
  · rintro ⟨g, cs, e, h1, h2⟩
    rcases e with ⟨e, rfl⟩ | e
    · cases e; rw [List.append_nil] at h2; exact ⟨h1, h2⟩
    · cases e
  · rintro ⟨h1, h2⟩; exact ⟨f, [], .inl ⟨rfl, rfl⟩, h1, by rw [List.append_nil]; exact h2⟩
theorem w_callv_c {f : Nat} {cs xs : List S} {h : List (Nat × Ob)} : callvL P (.clo f cs) xs h K = (callable P f = true ∧ callL P f (xs ++ cs) h K) := by
  apply propext
  constructor
  · rintro ⟨g, cs', e, h1, h2⟩
    rcases e with ⟨e, rfl⟩ | e
    · cases e
    · cases e; exact ⟨h1, h2⟩
  · rintro ⟨h1, h2⟩; exact ⟨f, cs, .inr rfl, h1, h2⟩
theorem do_fu {o : FU} {x : LA} : doW P d (.fu o x) st K = fuW o (ea st x) K := rfl
theorem do_fcx {x y : LA} : doW P d (.fcx x y) st K = fcxW (ea st x) (ea st y) K := rfl
theorem do_mkf {f : Nat} {as : List LA} : doW P d (.mkf f as) st K = K ⟨.clo f (as.map (ea st)), []⟩ := rfl
theorem do_eqn {n : Bool} {x : LA} : doW P d (.eqn n x) st K = eqnW n (ea st x) K := rfl
theorem do_mark {x : LA} : doW P d (.mark x) st K = markW (eb st x) K := rfl
theorem do_toStr {x : LA} : doW P d (.toStr x) st K = toStrW (eb st x) K := rfl
def toBytesW (d g : Nat) (x : S) (K : U → Prop) : Prop := match x with
  | .d (.v (.string s)) => s.size ≤ 140737488355328 ∧ K ⟨.view d g 0 s.size, [(d, ⟨g, .arr 1 (bytesD s)⟩)]⟩
  | _ => False
theorem do_toBytes {x : LA} : doW P d (.toBytes x) st K = toBytesW d (nextGen (hget st.h d)) (ea st x) K := rfl
theorem do_mksl {sz b : Nat} {z : List Value} {x y : LA} : doW P d (.mksl sz b z x y) st K = mkslW d (nextGen (hget st.h d)) sz b z (ea st x) (ea st y) K := rfl
theorem do_slc {sz : Nat} {x : LA} {l h : Option LA} : doW P d (.slc sz x l h) st K = slcW sz (eb st x) (l.map (eb st)) (h.map (eb st)) K := rfl
theorem do_slcs {x : LA} {l h : Option LA} : doW P d (.slcs x l h) st K = slcsW (eb st x) (l.map (eb st)) (h.map (eb st)) K := rfl
theorem do_fad {o : Nat} {x : LA} : doW P d (.fad o x) st K = fadW o (eb st x) K := rfl
theorem do_fld {o n : Nat} {g : Bool} {x : LA} : doW P d (.fld o n g x) st K = fldW o n g (eb st x) K := rfl
theorem do_iad {sz : Nat} {x y : LA} : doW P d (.iad sz x y) st K = iadW sz (eb st x) (eb st y) K := rfl
theorem do_ixs {x y : LA} : doW P d (.ixs x y) st K = ixsW (eb st x) (eb st y) K := rfl
theorem do_ext {i : Nat} {x : LA} : doW P d (.ext i x) st K = extW i (eb st x) K := rfl
theorem do_call {f : Nat} {as : List LA} : doW P d (.call f as) st K = callL P f (as.map (ea st)) st.h K := rfl
theorem do_len {x : LA} : doW P d (.len x) st K = lenW (eb st x) K := rfl
theorem do_lenS {x : LA} : doW P d (.lenS x) st K = lenSW (ea st x) K := rfl
def rowsW (x : A) (K : List (List D) → Prop) : Prop := someW (rowsOf x) K
theorem do_app {sz b : Nat} {z : List Value} {x y : LA} : doW P d (.app sz b z x y) st K = (fits sz (eb st y) ∧ rowsW (eb st y) fun ys => appW d (nextGen (hget st.h d)) sz b (eb st x) (some ys) K) := by
  show (fits sz (eb st y) ∧ appW d (nextGen (hget st.h d)) sz b (eb st x) (rowsOf (eb st y)) K) = _
  unfold rowsW someW
  cases rowsOf (eb st y) <;> rfl
def appStrW (d g : Nat) (x : A) (y : S) (K : U → Prop) : Prop := match y with
  | .d (.v (.string s)) => appW d g 1 1 x (some (bytesD s)) K
  | _ => False
theorem do_appStr {z : List Value} {x y : LA} : doW P d (.appStr z x y) st K = appStrW d (nextGen (hget st.h d)) (eb st x) (ea st y) K := rfl
theorem do_copy {sz : Nat} {x y : LA} : doW P d (.copy sz x y) st K = copyW sz (eb st x) (eb st y) K := rfl
theorem do_mm {m : Bool} {x y : LA} : doW P d (.mm m x y) st K = mmW m (ea st x) (ea st y) K := rfl
theorem rowsW_congr {x x' : A} {K : List (List D) → Prop} (h : mark x = x') : rowsW x K = rowsW x' K := by simp only [mark_eq] at h; rw [h]
attribute [congr] rowsW_congr
theorem slc0W_congr {d g g' sz : Nat} {x x' : A} {K : U → Prop} (h0 : mark g = g') (h : mark x = x') : slc0W d g sz x K = slc0W d g' sz x' K := by simp only [mark_eq] at h0 h; rw [h0, h]
attribute [congr] slc0W_congr
theorem eqnW_congr {n : Bool} {x x' : S} {K : U → Prop} (h : mark x = x') : eqnW n x K = eqnW n x' K := by simp only [mark_eq] at h; rw [h]
attribute [congr] eqnW_congr
theorem markW_congr {x x' : A} {K : U → Prop} (h : mark x = x') : markW x K = markW x' K := by simp only [mark_eq] at h; rw [h]
attribute [congr] markW_congr
theorem toBytesW_congr {d g g' : Nat} {x x' : S} {K : U → Prop} (h0 : mark g = g') (h : mark x = x') : toBytesW d g x K = toBytesW d g' x' K := by simp only [mark_eq] at h0 h; rw [h0, h]
theorem appStrW_congr {d g g' : Nat} {x x' : A} {y y' : S} {K : U → Prop} (h0 : mark g = g') (h : mark x = x') (h1 : mark y = y') : appStrW d g x y K = appStrW d g' x' y' K := by simp only [mark_eq] at h0 h h1; rw [h0, h, h1]
attribute [congr] toBytesW_congr appStrW_congr
end

/-- What an operation touches. -/
def opTs (st : St) (d : Nat) (L : LOp) (u : U) : List Nat := (d :: (L.args.flatMap fun x => (ea st x).refs)) ++ u.wr.map (·.1)
section
variable {P : Program} {d : Nat} {st : St} {K : U → List Nat → Prop}
theorem dt_call {f : Nat} {as : List LA} : doT P d (.call f as) st K = callLT P f (as.map (ea st)) st.h K := rfl
theorem dt_mv {x : LA} : doT P d (.mv x) st K = K ⟨ea st x, []⟩ [d] := rfl
theorem dt_pick : ∀ c a b, doT P d (.pick c a b) st K = doW P d (.pick c a b) st fun u => K u (opTs st d (.pick c a b) u) := by intros; rfl
theorem dt_alloc : ∀ z, doT P d (.alloc z) st K = doW P d (.alloc z) st fun u => K u (opTs st d (.alloc z) u) := by intros; rfl
theorem dt_box : ∀ n x, doT P d (.box n x) st K = doW P d (.box n x) st fun u => K u (opTs st d (.box n x) u) := by intros; rfl
theorem dt_build : ∀ z p, doT P d (.build z p) st K = doW P d (.build z p) st fun u => K u (opTs st d (.build z p) u) := by intros; rfl
theorem dt_bslice : ∀ s l z p, doT P d (.bslice s l z p) st K = doW P d (.bslice s l z p) st fun u => K u (opTs st d (.bslice s l z p) u) := by intros; rfl
theorem dt_load : ∀ n g a, doT P d (.load n g a) st K = doW P d (.load n g a) st fun u => K u (opTs st d (.load n g a) u) := by intros; rfl
theorem dt_store : ∀ n a x, doT P d (.store n a x) st K = doW P d (.store n a x) st fun u => K u (opTs st d (.store n a x) u) := by intros; rfl
theorem dt_nilck : ∀ x, doT P d (.nilck x) st K = doW P d (.nilck x) st fun u => K u (opTs st d (.nilck x) u) := by intros; rfl
theorem dt_bin : ∀ o x y, doT P d (.bin o x y) st K = doW P d (.bin o x y) st fun u => K u (opTs st d (.bin o x y) u) := by intros; rfl
theorem dt_eqb : ∀ n x y, doT P d (.eqb n x y) st K = doW P d (.eqb n x y) st fun u => K u (opTs st d (.eqb n x y) u) := by intros; rfl
theorem dt_eqp : ∀ n x y, doT P d (.eqp n x y) st K = doW P d (.eqp n x y) st fun u => K u (opTs st d (.eqp n x y) u) := by intros; rfl
theorem dt_eqs : ∀ n k x y, doT P d (.eqs n k x y) st K = doW P d (.eqs n k x y) st fun u => K u (opTs st d (.eqs n k x y) u) := by intros; rfl
theorem dt_un : ∀ o x, doT P d (.un o x) st K = doW P d (.un o x) st fun u => K u (opTs st d (.un o x) u) := by intros; rfl
theorem dt_toInt : ∀ k x, doT P d (.toInt k x) st K = doW P d (.toInt k x) st fun u => K u (opTs st d (.toInt k x) u) := by intros; rfl
theorem dt_toBytes : ∀ x, doT P d (.toBytes x) st K = doW P d (.toBytes x) st fun u => K u (opTs st d (.toBytes x) u) := by intros; rfl
theorem dt_slc0 : ∀ s x, doT P d (.slc0 s x) st K = doW P d (.slc0 s x) st fun u => K u (opTs st d (.slc0 s x) u) := by intros; rfl
def callvLT (P : Program) (y : S) (xs : List S) (h : List (Nat × Ob)) (K : U → List Nat → Prop) : Prop := ∃ f cs, fnIs y f cs ∧ callable P f = true ∧ callLT P f (xs ++ cs) h K
theorem dt_callv {x : LA} {as : List LA} : doT P d (.callv x as) st K = callvLT P (ea st x) (as.map (ea st)) st.h K := rfl
theorem w_callvT {f : Nat} {xs : List S} {h : List (Nat × Ob)} : callvLT P (.d (.v (.func (.func f) #[] #[]))) xs h K = (callable P f = true ∧ callLT P f xs h K) := by
  apply propext
  constructor
  · rintro ⟨g, cs, e, h1, h2⟩
    rcases e with ⟨e, rfl⟩ | e
    · cases e; rw [List.append_nil] at h2; exact ⟨h1, h2⟩
    · cases e
  · rintro ⟨h1, h2⟩; exact ⟨f, [], .inl ⟨rfl, rfl⟩, h1, by rw [List.append_nil]; exact h2⟩
theorem w_callvT_c {f : Nat} {cs xs : List S} {h : List (Nat × Ob)} : callvLT P (.clo f cs) xs h K = (callable P f = true ∧ callLT P f (xs ++ cs) h K) := by
  apply propext
  constructor
  · rintro ⟨g, cs', e, h1, h2⟩
    rcases e with ⟨e, rfl⟩ | e
    · cases e
    · cases e; exact ⟨h1, h2⟩
  · rintro ⟨h1, h2⟩; exact ⟨f, cs, .inr rfl, h1, h2⟩
theorem dt_fu : ∀ o x, doT P d (.fu o x) st K = doW P d (.fu o x) st fun u => K u (opTs st d (.fu o x) u) := by intros; rfl
theorem dt_fcx : ∀ x y, doT P d (.fcx x y) st K = doW P d (.fcx x y) st fun u => K u (opTs st d (.fcx x y) u) := by intros; rfl
theorem dt_mkf : ∀ f as, doT P d (.mkf f as) st K = doW P d (.mkf f as) st fun u => K u (opTs st d (.mkf f as) u) := by intros; rfl
theorem callvL_congr {y y' : S} {xs xs' : List S} {h h' : List (Nat × Ob)} {K : U → Prop} (e0 : mark y = y') (e1 : mark xs = xs') (e2 : mark h = h') : callvL P y xs h K = callvL P y' xs' h' K := by simp only [mark_eq] at e0 e1 e2; rw [e0, e1, e2]
theorem callvLT_congr {y y' : S} {xs xs' : List S} {h h' : List (Nat × Ob)} {K : U → List Nat → Prop} (e0 : mark y = y') (e1 : mark xs = xs') (e2 : mark h = h') : callvLT P y xs h K = callvLT P y' xs' h' K := by simp only [mark_eq] at e0 e1 e2; rw [e0, e1, e2]
attribute [congr] callvL_congr callvLT_congr
theorem dt_eqn : ∀ n x, doT P d (.eqn n x) st K = doW P d (.eqn n x) st fun u => K u (opTs st d (.eqn n x) u) := by intros; rfl
theorem dt_mark : ∀ x, doT P d (.mark x) st K = doW P d (.mark x) st fun u => K u (opTs st d (.mark x) u) := by intros; rfl
theorem dt_toStr : ∀ x, doT P d (.toStr x) st K = doW P d (.toStr x) st fun u => K u (opTs st d (.toStr x) u) := by intros; rfl
theorem dt_mksl : ∀ s b z n c, doT P d (.mksl s b z n c) st K = doW P d (.mksl s b z n c) st fun u => K u (opTs st d (.mksl s b z n c) u) := by intros; rfl
theorem dt_slc : ∀ s x l h, doT P d (.slc s x l h) st K = doW P d (.slc s x l h) st fun u => K u (opTs st d (.slc s x l h) u) := by intros; rfl
theorem dt_slcs : ∀ x l h, doT P d (.slcs x l h) st K = doW P d (.slcs x l h) st fun u => K u (opTs st d (.slcs x l h) u) := by intros; rfl
theorem dt_fad : ∀ o x, doT P d (.fad o x) st K = doW P d (.fad o x) st fun u => K u (opTs st d (.fad o x) u) := by intros; rfl
theorem dt_fld : ∀ o n g x, doT P d (.fld o n g x) st K = doW P d (.fld o n g x) st fun u => K u (opTs st d (.fld o n g x) u) := by intros; rfl
theorem dt_iad : ∀ s x i, doT P d (.iad s x i) st K = doW P d (.iad s x i) st fun u => K u (opTs st d (.iad s x i) u) := by intros; rfl
theorem dt_ixs : ∀ x i, doT P d (.ixs x i) st K = doW P d (.ixs x i) st fun u => K u (opTs st d (.ixs x i) u) := by intros; rfl
theorem dt_ext : ∀ i x, doT P d (.ext i x) st K = doW P d (.ext i x) st fun u => K u (opTs st d (.ext i x) u) := by intros; rfl
theorem dt_len : ∀ x, doT P d (.len x) st K = doW P d (.len x) st fun u => K u (opTs st d (.len x) u) := by intros; rfl
theorem dt_lenS : ∀ x, doT P d (.lenS x) st K = doW P d (.lenS x) st fun u => K u (opTs st d (.lenS x) u) := by intros; rfl
theorem dt_app : ∀ s b z x y, doT P d (.app s b z x y) st K = doW P d (.app s b z x y) st fun u => K u (opTs st d (.app s b z x y) u) := by intros; rfl
theorem dt_appStr : ∀ z x y, doT P d (.appStr z x y) st K = doW P d (.appStr z x y) st fun u => K u (opTs st d (.appStr z x y) u) := by intros; rfl
theorem dt_copy : ∀ s x y, doT P d (.copy s x y) st K = doW P d (.copy s x y) st fun u => K u (opTs st d (.copy s x y) u) := by intros; rfl
theorem dt_mm : ∀ m x y, doT P d (.mm m x y) st K = doW P d (.mm m x y) st fun u => K u (opTs st d (.mm m x y) u) := by intros; rfl
end

/-! choices that are propositions -/
theorem condW_decide {p : Prop} [Decidable p] {T F : Prop} : condW (.d (.v (.bool (decide p)))) T F = ((p → T) ∧ (¬ p → F)) := by
  simp [condW]
theorem condW_true {T F : Prop} : condW (.d (.v (.bool true))) T F = T := by simp [condW]
theorem condW_false {T F : Prop} : condW (.d (.v (.bool false))) T F = F := by simp [condW]
theorem guard_decide_t {p : Prop} [Decidable p] {T F C : Prop} : guardW (.d (.v (.bool (decide p)))) true T F C = ((p → T) ∧ (¬ p → F)) := by simp [guardW]
theorem guard_decide_f {p : Prop} [Decidable p] {T F C : Prop} : guardW (.d (.v (.bool (decide p)))) false T F C = ((¬ p → T) ∧ (p → F)) := by simp [guardW]
theorem guard_u {w : Bool} {T F C : Prop} : guardW (.d (.v undef)) w T F C = C := by simp [guardW, undef]
theorem guard_tt {T F C : Prop} : guardW (.d (.v (.bool true))) true T F C = T := by simp [guardW]
theorem guard_tf {T F C : Prop} : guardW (.d (.v (.bool true))) false T F C = F := by simp [guardW]
theorem guard_ft {T F C : Prop} : guardW (.d (.v (.bool false))) true T F C = F := by simp [guardW]
theorem guard_ff {T F C : Prop} : guardW (.d (.v (.bool false))) false T F C = T := by simp [guardW]
theorem pick_true {a b : S} {K : U → Prop} : pickW (.d (.v (.bool true))) a b K = K ⟨a, []⟩ := by simp [pickW]
theorem pick_false {a b : S} {K : U → Prop} : pickW (.d (.v (.bool false))) a b K = K ⟨b, []⟩ := by simp [pickW]
theorem pick_decide {p : Prop} [Decidable p] {a b : S} {K : U → Prop} : pickW (.d (.v (.bool (decide p)))) a b K = ((p → K ⟨a, []⟩) ∧ (¬ p → K ⟨b, []⟩)) := by simp [pickW]
theorem int_beq (a b : Int) : (a == b) = decide (a = b) := rfl
theorem int_bne (a b : Int) : (a != b) = decide (¬ a = b) := by
  by_cases h : a = b <;> simp [h, bne]
theorem str_beq (a b : ByteArray) : (a.toList == b.toList) = decide (a.toList = b.toList) := by
  by_cases h : a.toList = b.toList <;> simp [h]
theorem not_decide' {p : Prop} [Decidable p] : (!decide p) = decide (¬ p) := by simp
section
variable {α : Type} {k : St → Prop} {Q : Exit → St → Prop} {st : St} {pins : List Nat} {I : α → St} {G : α → Prop} {μ : α → Nat} {m lab : Nat}
theorem Ks_n : Kseq k Q .normal st = k st := rfl
theorem Ks_r : Kseq k Q .ret st = Q .ret st := rfl
theorem Ks_e {i : Nat} : Kseq k Q (.exit i) st = Q (.exit i) st := rfl
theorem Ks_g {i : Nat} : Kseq k Q (.goto i) st = Q (.goto i) st := rfl
theorem Kb_n {i : Nat} : Kblock i Q .normal st = Q .normal st := rfl
theorem Kb_r {i : Nat} : Kblock i Q .ret st = Q .ret st := rfl
theorem Kb_e {i j : Nat} : Kblock i Q (.exit j) st = if j = i then Q .normal st else Q (.exit j) st := rfl
theorem Kb_g {i j : Nat} : Kblock i Q (.goto j) st = Q (.goto j) st := rfl
theorem Kl_n : Kloop pins I G μ m Q .normal st = ∃ y, G y ∧ μ y < m ∧ LE pins st (I y) := rfl
theorem Kl_r : Kloop pins I G μ m Q .ret st = Q .ret st := rfl
theorem Kl_e {i : Nat} : Kloop pins I G μ m Q (.exit i) st = Q (.exit i) st := rfl
theorem Kl_g {i : Nat} : Kloop pins I G μ m Q (.goto i) st = Q (.goto i) st := rfl
theorem K0_n : Kgoto0 pins lab I G Q .normal st = Q .normal st := rfl
theorem K0_r : Kgoto0 pins lab I G Q .ret st = Q .ret st := rfl
theorem K0_e {i : Nat} : Kgoto0 pins lab I G Q (.exit i) st = Q (.exit i) st := rfl
theorem K0_g {i : Nat} : Kgoto0 pins lab I G Q (.goto i) st = (i = lab ∧ ∃ y, G y ∧ LE pins st (I y)) := rfl
theorem Kg_n : Kgoto pins lab I G μ m Q .normal st = Q .normal st := rfl
theorem Kg_r : Kgoto pins lab I G μ m Q .ret st = Q .ret st := rfl
theorem Kg_e {i : Nat} : Kgoto pins lab I G μ m Q (.exit i) st = Q (.exit i) st := rfl
theorem Kg_g {i : Nat} : Kgoto pins lab I G μ m Q (.goto i) st = (i = lab ∧ ∃ y, G y ∧ μ y < m ∧ LE pins st (I y)) := rfl
theorem Kl_congr {e : Exit} {st' : St} (h : mark st = st') : Kloop pins I G μ m Q e st = Kloop pins I G μ m Q e st' := by simp only [mark_eq] at h; rw [h]
theorem K0_congr {e : Exit} {st' : St} (h : mark st = st') : Kgoto0 pins lab I G Q e st = Kgoto0 pins lab I G Q e st' := by simp only [mark_eq] at h; rw [h]
theorem Kg_congr {e : Exit} {st' : St} (h : mark st = st') : Kgoto pins lab I G μ m Q e st = Kgoto pins lab I G μ m Q e st' := by simp only [mark_eq] at h; rw [h]
attribute [congr] Kl_congr K0_congr Kg_congr
end
end Go.Eng
