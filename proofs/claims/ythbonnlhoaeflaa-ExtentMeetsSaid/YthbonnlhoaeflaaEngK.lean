/-
  The engine, part K: a statement's operations, one behind the other, and in whatever order.
-/
import Derived.Test.YthbonnlhoaeflaaEngJ
set_option linter.unusedVariables false
set_option linter.unusedSimpArgs false
namespace Go.Eng
open Go.RowKit Go.Lib

/-- An operation: the slot that it writes, the slot that it waits on, what it does. -/
structure LI where
  dst : Option Nat
  g : Option (Nat × Bool)
  op : LOp
instance : Inhabited LI := ⟨⟨none, none, default⟩⟩

def callable (P : Program) (f : Nat) : Bool := match P.funcs[f]? with
  | some fn => fn.name != "runtime.NumGoroutine" && fn.body.isSome
  | none => false

def callableL (P : Program) : LOp → Bool
  | .call f _ => callable P f
  | _ => true

def trLI (P : Program) (N : Nat) (ops : Array Oper) (o : Oper) : Option LI :=
  match trOp P N o with
  | some L =>
    if callableL P L = true then
      match o.guard with
      | none => some ⟨o.dst, none, L⟩
      | some (j, want) => match (ops[j]?).bind (·.dst) with
        | some t => if t < N then some ⟨o.dst, some (t, want), L⟩ else none
        | none => none
    else none
  | none => none

/-- A function that is a value, with what it holds. -/
def fnIs (y : S) (f : Nat) (cs : List S) : Prop := (y = .d (.v (.func (.func f) #[] #[])) ∧ cs = []) ∨ y = .clo f cs

/-- What an operation comes to on an abstract state. -/
def doR (P : Program) (li : LI) (s : Nat → S) (h : Nat → Option Ob) (u : U) : Prop :=
  match li.op with
  | .call f as => ∃ pins hA fargs hB res σ keep L gone, Spec P f pins hA fargs hB res ∧ CallOk h (as.map (evalA s)) pins hA fargs hB res σ keep L gone ∧
      u = ⟨renS (only σ (hget hB)) (gmOf h pins σ) res, wrN h pins hB σ gone⟩
  | .callv x as => ∃ f cs, fnIs (evalA s x) f cs ∧ callable P f = true ∧ ∃ pins hA fargs hB res σ keep L gone, Spec P f pins hA fargs hB res ∧ CallOk h (as.map (evalA s) ++ cs) pins hA fargs hB res σ keep L gone ∧
      u = ⟨renS (only σ (hget hB)) (gmOf h pins σ) res, wrN h pins hB σ gone⟩
  | L => opW (li.dst.getD 0) (nextGen (h (li.dst.getD 0))) (fun x => att h (evalA s x)) (· = u) L

def StepR (P : Program) (li : LI) (s : Nat → S) (h : Nat → Option Ob) (u : U) : Prop :=
  match li.g with
  | none => doR P li s h u
  | some (t, want) => (∃ b, s t = vB b ∧ ((b = want ∧ doR P li s h u) ∨ (b ≠ want ∧ u = ⟨.d (.v undef), []⟩))) ∨ (s t = .d (.v undef) ∧ u = ⟨.d (.v undef), []⟩)

def upO (s : Nat → S) (d : Option Nat) (x : S) : Nat → S := match d with
  | some d => up s d x
  | none => s

section
variable {Γ : Ctx} {s : Nat → S} {h : Nat → Option Ob} {a : Act} {w : World} {ok : Nat → Prop} {lv : Nat → Option Reg}

theorem Rel.putU (R : Rel Γ s h a w ok lv) (d : Option Nat) (x : S) (v : Value) (hx : RepS w ok lv x v) : Rel Γ (upO s d x) h (a.put d v) w ok lv := by
  cases d with
  | none => exact R
  | some d => exact R.put d x v hx

theorem trBin_nocall {P : Program} {op : BinOp} {t : TypeId} {x y : LA} {f : Nat} {as : List LA} (h : trBin P op t x y = some (.call f as)) : False := by
  unfold trBin at h
  repeat' split at h
  all_goals simp at h

theorem trConv_nocall {P : Program} {src dst : TypeId} {x : LA} {f : Nat} {as : List LA} (h : trConv P src dst x = some (.call f as)) : False := by
  unfold trConv at h
  repeat' split at h
  all_goals simp at h

theorem trBuiltin_nocall {P : Program} {N : Nat} {b : Builtin} {xs : List Operand} {ts : List TypeId} {f : Nat} {as : List LA} (h : trBuiltin P N b xs ts = some (.call f as)) : False := by
  unfold trBuiltin at h
  repeat' split at h
  all_goals simp at h

theorem trOp_call {P : Program} {N : Nat} {o : Oper} {f : Nat} {as : List LA} (h : trOp P N o = some (.call f as)) : ∃ c, o.op = .call c ∧ c.callee = .value (.func f) ∧ trAs N c.args.toList = some as := by
  unfold trOp at h
  split at h
  case h_21 c hop =>
    split at h
    · rename_i f' hc
      cases hx : trAs N c.args.toList with
      | none => rw [hx] at h; cases h
      | some as' => rw [hx] at h; cases h; exact ⟨c, hop, hc, hx⟩
    · split at h <;> cases h
    · exact (trBuiltin_nocall h).elim
    · cases h
  case h_11 => 
    split at h
    · exact (trBin_nocall h).elim
    · cases h
  case h_13 =>
    split at h
    · exact (trConv_nocall h).elim
    · cases h
  all_goals
    exfalso
    first
      | (simp at h; done)
      | (repeat' split at h
         all_goals simp at h)

theorem trBin_nocallv {P : Program} {op : BinOp} {t : TypeId} {x y z : LA} {as : List LA} (h : trBin P op t x y = some (.callv z as)) : False := by
  unfold trBin at h
  repeat' split at h
  all_goals simp at h

theorem trConv_nocallv {P : Program} {src dst : TypeId} {x z : LA} {as : List LA} (h : trConv P src dst x = some (.callv z as)) : False := by
  unfold trConv at h
  repeat' split at h
  all_goals simp at h

theorem trBuiltin_nocallv {P : Program} {N : Nat} {b : Builtin} {xs : List Operand} {ts : List TypeId} {z : LA} {as : List LA} (h : trBuiltin P N b xs ts = some (.callv z as)) : False := by
  unfold trBuiltin at h
  repeat' split at h
  all_goals simp at h

theorem trOp_callv {P : Program} {N : Nat} {o : Oper} {x : LA} {as : List LA} (h : trOp P N o = some (.callv x as)) : ∃ c y, o.op = .call c ∧ c.callee = .value y ∧ trA N y = some x ∧ trAs N c.args.toList = some as := by
  unfold trOp at h
  split at h
  case h_21 c hop =>
    split at h
    · rename_i f' hc
      cases hx : trAs N c.args.toList with
      | none => rw [hx] at h; cases h
      | some as' => rw [hx] at h; cases h
    · rename_i y _ hc
      split at h
      · rename_i x' as' h1 h2
        cases h
        exact ⟨c, y, hop, hc, h1, h2⟩
      · cases h
    · exact (trBuiltin_nocallv h).elim
    · cases h
  case h_11 =>
    split at h
    · exact (trBin_nocallv h).elim
    · cases h
  case h_13 =>
    split at h
    · exact (trConv_nocallv h).elim
    · cases h
  all_goals
    exfalso
    first
      | (simp at h; done)
      | (repeat' split at h
         all_goals simp at h)

theorem hwr_wrN {h : Nat → Option Ob} {pins : List Nat} {hB : List (Nat × Ob)} {σ : Nat → Option Nat} {gone : List Nat} : hwr h (wrN h pins hB σ gone) = hN h pins hB σ gone hB := by
  have base : ∀ (h0 : Nat → Option Ob) (l : List Nat), (∀ id, h0 id = h id ∨ h0 id = (h id).map (fun ob => ⟨ob.gen, .dead⟩)) → ∀ id, hwr h0 (l.filterMap fun id => (h id).map fun ob => (id, ⟨ob.gen, .dead⟩)) id = if id ∈ l then (h id).map (fun ob => ⟨ob.gen, .dead⟩) else h0 id := by
    intro h0 l
    induction l generalizing h0 with
    | nil => intro _ id; rfl
    | cons j l ih =>
      intro hh id
      cases hj : h j with
      | none =>
        simp only [List.filterMap_cons, hj, Option.map_none]
        rw [ih h0 hh]
        by_cases e : id = j
        · subst e
          have h0j : h0 id = none := by rcases hh id with q | q <;> rw [q] <;> simp [hj]
          simp [hj, h0j]
        · simp [e]
      | some ob =>
        simp only [List.filterMap_cons, hj, Option.map_some, hwr_cons]
        rw [ih (up h0 j (some ⟨ob.gen, .dead⟩)) (fun id => by
          by_cases e : id = j
          · subst e; right; simp [hj]
          · rw [up_ne _ _ _ e]; exact hh id)]
        by_cases e : id = j
        · subst e; simp [hj]
        · simp [e, up_ne _ _ _ e]
  have top : ∀ (h0 : Nat → Option Ob) (l : List (Nat × Ob)), (∀ id, h0 id = if id ∈ gone then (h id).map (fun ob => ⟨ob.gen, .dead⟩) else h id) →
      ∀ id, hwr h0 (l.reverse.filterMap fun p => (σ p.1).map fun id => (id, ⟨gmOf h pins σ p.1, renB (only σ (hget hB)) (gmOf h pins σ) p.2.body⟩)) id = hN h pins hB σ gone l id := by
    intro h0 l hh
    induction l with
    | nil => intro id; simp only [List.reverse_nil, List.filterMap_nil, hwr_nil, hN]; exact hh id
    | cons p l ih =>
      intro id
      rw [List.reverse_cons, List.filterMap_append, hwr_append]
      simp only [hN]
      cases hs : σ p.1 with
      | none =>
        simp only [List.filterMap_cons, hs, Option.map_none, List.filterMap_nil, hwr_nil]
        rw [ih id]; simp
      | some j =>
        simp only [List.filterMap_cons, hs, Option.map_some, List.filterMap_nil, hwr_cons, hwr_nil]
        by_cases e : id = j
        · subst e; simp
        · rw [up_ne _ _ _ e, ih id]
          have : ¬ (some j = some id) := by simp; exact fun q => e q.symm
          simp [this]
  funext id
  unfold wrN
  rw [hwr_append]
  exact top _ hB (fun id => base h gone (fun _ => .inl rfl) id) id

/-- An operation that may come up is carried out, and the state passes on. -/
theorem step_ok (R : Rel Γ s h a w ok lv) {ops : Array Oper} {i : Nat} {o : Oper} (ho : ops[i]? = some o) {li : LI} (htr : trLI Γ.P Γ.N ops o = some li) {u : U} (hS : StepR Γ.P li s h u)
    {K : Act → World → Prop} {Q : Exit → Act → World → Prop} (hK : ∀ a' w' ok' lv', Rel Γ (upO s li.dst u.val) (hwr h u.wr) a' w' ok' lv' → K a' w') : wpOp Γ.P ops Q i K a w := by
  unfold trLI at htr
  split at htr
  · rename_i L htrop
    split at htr
    · rename_i hcall
      -- carried out
      have main : ∀ li : LI, li.dst = o.dst → li.op = L → doR Γ.P li s h u → (∀ a' w' ok' lv', Rel Γ (upO s o.dst u.val) (hwr h u.wr) a' w' ok' lv' → K a' w') → o.wp Γ.P a w K Q := by
        intro li hd hop hdo hK
        unfold doR at hdo
        rw [hop] at hdo
        split at hdo
        · rename_i f as
          obtain ⟨pins, hA, fargs, hB, res, σ, keep, LL, gone, hSp, C, rfl⟩ := hdo
          -- a call
          have hc := trOp_call htrop
          obtain ⟨c, hc1, hc2, hc3⟩ := hc
          obtain ⟨g1, g2⟩ := trAs_eval R hc3
          have hcal : ∃ fn, Γ.P.funcs[f]? = some fn ∧ fn.name ≠ "runtime.NumGoroutine" ∧ fn.body.isSome = true := by
            simp only [callableL, callable] at hcall
            split at hcall
            · rename_i fn hfn
              simp only [Bool.and_eq_true, bne_iff_ne, ne_eq] at hcall
              exact ⟨fn, hfn, hcall.1, hcall.2⟩
            · cases hcall
          obtain ⟨fn, f1, f2, f3⟩ := hcal
          obtain ⟨bd, f4⟩ := Option.isSome_iff_exists.1 f3
          have hvals : c.args.map a.eval = (c.args.toList.map a.eval).toArray := by
            apply Array.ext'; simp
          have hex : (execOp a.eval o).run Γ.P w = .ok (.enter f (c.args.toList.map a.eval).toArray) w := by
            simp only [execOp, hc1, resolve, hc2, hvals]
            simp [Act.eval, Deferred.ofValue, invoke, callFunc, f1, f2, f4]
          unfold Oper.wp
          rw [hex, Oper.upon_enter]
          refine (call_core R hSp C (by simp [g1]) (fun j x v hx hv => ?_)).mono ?_
          · rw [List.getElem?_map] at hx hv
            cases hxj : as[j]? with
            | none => rw [hxj] at hx; cases hx
            | some y =>
              rw [hxj] at hx; simp at hx; subst hx
              cases hvj : c.args.toList[j]? with
              | none => rw [hvj] at hv; cases hv
              | some z =>
                rw [hvj] at hv; simp at hv; subst hv
                exact g2 j z y hvj hxj
          · rintro e w' ⟨v, okN, lv2, rfl, R', hv⟩
            refine hK _ w' okN lv2 ?_
            rw [hwr_wrN]
            exact R'.putU o.dst _ v hv
        · rename_i x as
          obtain ⟨f, cs, hfx, hcal, pins, hA, fargs, hB, res, σ, keep, LL, gone, hSp, C, rfl⟩ := hdo
          obtain ⟨c, y, hc1, hc2, hc4, hc3⟩ := trOp_callv htrop
          have hey : ∃ us : List Value, a.eval y = .func (.func f) #[] us.toArray ∧ us.length = cs.length ∧ ∀ (k : Nat) (s : S) (u : Value), cs[k]? = some s → us[k]? = some u → RepS w ok lv s u := by
            have he := R.eval hc4
            rcases hfx with ⟨hfx, rfl⟩ | hfx
            · rw [hfx] at he
              exact ⟨[], he.dv, rfl, fun k s u h1 => by simp at h1⟩
            · rw [hfx] at he
              generalize hv : a.eval y = v at he
              cases he with
              | clo _ _ us hl hh => exact ⟨us, rfl, hl, hh⟩
          obtain ⟨us, hey, hul, huh⟩ := hey
          obtain ⟨g1, g2⟩ := trAs_eval R hc3
          have hcal : ∃ fn, Γ.P.funcs[f]? = some fn ∧ fn.name ≠ "runtime.NumGoroutine" ∧ fn.body.isSome = true := by
            simp only [callable] at hcal
            split at hcal
            · rename_i fn hfn
              simp only [Bool.and_eq_true, bne_iff_ne, ne_eq] at hcal
              exact ⟨fn, hfn, hcal.1, hcal.2⟩
            · cases hcal
          obtain ⟨fn, f1, f2, f3⟩ := hcal
          obtain ⟨bd, f4⟩ := Option.isSome_iff_exists.1 f3
          have hvals : c.args.map a.eval ++ us.toArray = (c.args.toList.map a.eval ++ us).toArray := by
            apply Array.ext'; simp
          have hex : (execOp a.eval o).run Γ.P w = .ok (.enter f (c.args.toList.map a.eval ++ us).toArray) w := by
            rw [← hvals]
            simp only [execOp, hc1, resolve, hc2, hey]
            simp [Deferred.ofValue, invoke, callFunc, f1, f2, f4]
          unfold Oper.wp
          rw [hex, Oper.upon_enter]
          refine (call_core R hSp C (by simp [g1, hul]) (fun j x v hx hv => ?_)).mono ?_
          · by_cases hj : j < as.length
            · rw [List.getElem?_append_left (by simpa using hj)] at hx
              rw [List.getElem?_append_left (by rw [List.length_map, g1]; exact hj)] at hv
              rw [List.getElem?_map] at hx hv
              cases hxj : as[j]? with
              | none => rw [hxj] at hx; cases hx
              | some y =>
                rw [hxj] at hx; simp at hx; subst hx
                cases hvj : c.args.toList[j]? with
                | none => rw [hvj] at hv; cases hv
                | some z =>
                  rw [hvj] at hv; simp at hv; subst hv
                  exact g2 j z y hvj hxj
            · rw [List.getElem?_append_right (by simp; omega)] at hx
              rw [List.getElem?_append_right (by rw [List.length_map, g1]; omega)] at hv
              rw [List.length_map] at hx hv
              rw [g1] at hv
              exact huh _ x v hx hv
          · rintro e w' ⟨v, okN, lv2, rfl, R', hv⟩
            refine hK _ w' okN lv2 ?_
            rw [hwr_wrN]
            exact R'.putU o.dst _ v hv
        · exact op_ok R htrop (li.dst.getD 0) hdo (fun v w' ok' lv' R' hv => hK _ w' ok' lv' (R'.putU o.dst _ v hv))
      unfold wpOp
      simp only [ho]
      split at htr
      · rename_i hg
        cases htr
        simp only [StepR] at hS
        have hw : Region.wanted o (yielded ops a.tmps) = true := by simp [Region.wanted, hg]
        rw [if_pos hw]
        exact .inl (main _ rfl rfl hS hK)
      · rename_i j want hg
        split at htr
        · rename_i t ht
          split at htr
          · rename_i hlt
            cases htr
            simp only [StepR] at hS
            have hlt' : t < a.tmps.size := by rw [R.tm]; exact hlt
            have hrep := R.sl t a.tmps[t] (by simp [hlt'])
            rcases hS with ⟨b, hb, hS⟩ | ⟨hb, rfl⟩
            rotate_left
            · rw [hb] at hrep
              have hv : a.tmps[t]? = some undef := by rw [Array.getElem?_eq_getElem hlt', hrep.dv]
              have hy : yielded ops a.tmps j = none := by simp [yielded, ht, hv, undef]
              have hw : Region.wanted o (yielded ops a.tmps) = false := by simp [Region.wanted, hg, hy]
              rw [hw]
              simp only [Bool.false_eq_true, if_false]
              exact hK _ w ok lv (R.putU o.dst _ undef (.d _ _ (.v _)))
            rw [hb] at hrep
            have hv : a.tmps[t]? = some (.bool b) := by rw [Array.getElem?_eq_getElem hlt', hrep.dv]
            have hy : yielded ops a.tmps j = some b := by simp [yielded, ht, hv]
            rcases hS with ⟨e, hS⟩ | ⟨e, rfl⟩
            · have hw : Region.wanted o (yielded ops a.tmps) = true := by simp [Region.wanted, hg, hy, e]
              rw [if_pos hw]
              exact .inl (main _ rfl rfl hS hK)
            · have hw : Region.wanted o (yielded ops a.tmps) = false := by simp [Region.wanted, hg, hy, e]
              rw [hw]
              simp only [Bool.false_eq_true, if_false]
              exact hK _ w ok lv (R.putU o.dst _ undef (.d _ _ (.v _)))
          · cases htr
        · cases htr
    · cases htr
  · cases htr
end
end Go.Eng
