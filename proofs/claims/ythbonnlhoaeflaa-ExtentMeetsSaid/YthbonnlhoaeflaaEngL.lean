/-
  The engine, part L: a statement whose operations may come in whatever order.
-/
import Derived.Test.YthbonnlhoaeflaaEngK
set_option linter.unusedVariables false
set_option linter.unusedSimpArgs false
namespace Go.Eng
open Go.RowKit Go.Lib

/-- The slots that an operation looks at. -/
def LA.slots : LA → List Nat
  | .t i => [i]
  | _ => []
def LOp.args : LOp → List LA
  | .mv x | .box _ x | .load _ _ x | .nilck x | .un _ x | .toInt _ x | .toBytes x | .mark x | .eqn _ x | .slc0 _ x | .toStr x | .fad _ x | .fld _ _ _ x | .ext _ x | .len x | .lenS x | .fu _ x => [x]
  | .pick c a b => [c, a, b]
  | .alloc _ => []
  | .build _ ps => ps.map (·.2.2)
  | .bslice _ _ _ ps => ps.map (·.2)
  | .store _ a x | .bin _ a x | .eqb _ a x | .eqp _ a x | .eqs _ _ a x | .iad _ a x | .ixs a x | .app _ _ _ a x | .appStr _ a x | .copy _ a x | .mm _ a x | .fcx a x => [a, x]
  | .mksl _ _ _ a x => [a, x]
  | .slc _ x lo hi | .slcs x lo hi => [x] ++ lo.toList ++ hi.toList
  | .call _ as => as
  | .callv x as => x :: as
  | .mkf _ as => as
def LI.slots (li : LI) : List Nat := li.op.args.flatMap LA.slots ++ (match li.g with | some (t, _) => [t] | none => [])

theorem evalA_congr {s s' : Nat → S} {x : LA} (h : ∀ t ∈ x.slots, s' t = s t) : evalA s' x = evalA s x := by
  cases x with
  | t i => exact h i (by simp [LA.slots])
  | c v => rfl
  | f g => rfl

theorem att_congr {s s' : Nat → S} {h h' : Nat → Option Ob} {x : LA} (h1 : ∀ t ∈ x.slots, s' t = s t) (h2 : ∀ id ∈ (evalA s x).refs, h' id = h id) : att h' (evalA s' x) = att h (evalA s x) := by
  rw [evalA_congr h1]
  unfold att
  congr 1
  exact List.map_congr_left h2

theorem bsRows_congr {ev ev' : LA → A} {sz : Nat} : ∀ (ps : List (Nat × LA)) (rows : List (List D)), (∀ p ∈ ps, ev' p.2 = ev p.2) → bsRows ev' sz ps rows = bsRows ev sz ps rows
  | [], rows, _ => rfl
  | (i, x) :: ps, rows, h => by
    simp only [bsRows, h (i, x) (by simp)]
    have := fun r => bsRows_congr (ev := ev) (ev' := ev') (sz := sz) ps r (fun p hp => h p (by simp [hp]))
    simp only [this]

theorem buildCells_congr {ev ev' : LA → A} : ∀ (ps : List (Nat × Nat × LA)) (cs : List S), (∀ p ∈ ps, ev' p.2.2 = ev p.2.2) → buildCells ev' ps cs = buildCells ev ps cs
  | [], cs, _ => rfl
  | (o, n, x) :: ps, cs, h => by
    simp only [buildCells, h (o, n, x) (by simp)]
    have := fun c => buildCells_congr (ev := ev) (ev' := ev') ps c (fun p hp => h p (by simp [hp]))
    simp only [this]

theorem opW_congr {d g : Nat} {ev ev' : LA → A} {K : U → Prop} {L : LOp} (h : ∀ x ∈ L.args, ev' x = ev x) : opW d g ev' K L = opW d g ev K L := by
  cases L <;> simp only [opW, LOp.args, List.mem_cons, List.not_mem_nil, or_false, forall_eq_or_imp, forall_eq, List.mem_append, Option.mem_toList, List.mem_map] at h ⊢
  case build z ps => rw [buildCells_congr ps _ (fun p hp => h _ ⟨p, hp, rfl⟩)]
  case bslice sz len z ps => rw [bsRows_congr ps _ (fun p hp => h _ ⟨p, hp, rfl⟩)]
  case mkf f as =>
    have e : (as.map fun x => (ev' x).1) = as.map fun x => (ev x).1 := List.map_congr_left fun x hx => by rw [h x hx]
    rw [e]
  case slc sz x lo hi =>
    cases lo <;> cases hi <;> simp_all
  case slcs x lo hi =>
    cases lo <;> cases hi <;> simp_all
  all_goals first | rfl | (simp only [h]) | (obtain ⟨h1, h2⟩ := h; simp only [h1, h2]) | (obtain ⟨h1, h2, h3⟩ := h; simp only [h1, h2, h3])

/-- What an operation is, whatever else the state holds: as long as its slots and the rows of T are as they are. -/
def Loc (P : Program) (li : LI) (s : Nat → S) (h : Nat → Option Ob) (u : U) (T : List Nat) : Prop :=
  ∀ s' h', (∀ t ∈ li.slots, s' t = s t) → (∀ id ∈ T, h' id = h id) → StepR P li s' h' u

def LOp.isCall : LOp → Bool
  | .call _ _ => true
  | .callv _ _ => true
  | _ => false

theorem loc_op {P : Program} {li : LI} {s : Nat → S} {h : Nat → Option Ob} {u : U} (hc : li.op.isCall = false) (hS : StepR P li s h u) :
    Loc P li s h u (li.dst.getD 0 :: li.op.args.flatMap fun x => (evalA s x).refs) := by
  intro s' h' h1 h2
  have hargs : ∀ x ∈ li.op.args, att h' (evalA s' x) = att h (evalA s x) := fun x hx =>
    att_congr (fun t ht => h1 t (List.mem_append_left _ (List.mem_flatMap.2 ⟨x, hx, ht⟩))) (fun id hid => h2 id (List.mem_cons_of_mem _ (List.mem_flatMap.2 ⟨x, hx, hid⟩)))
  have hg : h' (li.dst.getD 0) = h (li.dst.getD 0) := h2 _ (by simp)
  have hdo : doR P li s h u → doR P li s' h' u := by
    intro hd
    unfold doR at *
    split at hd
    · rename_i f as heq; rw [heq] at hc; cases hc
    · rename_i x as heq; rw [heq] at hc; cases hc
    · rw [hg, opW_congr (ev := fun x => att h (evalA s x)) hargs]; exact hd
  unfold StepR at *
  split at hS
  · exact hdo hS
  · rename_i t want hgd
    rcases hS with ⟨b, hb, hS⟩ | ⟨hb, hu⟩
    rotate_left
    · exact .inr ⟨by rw [h1 t (by simp [LI.slots, hgd])]; exact hb, hu⟩
    refine .inl ⟨b, by rw [h1 t (by simp [LI.slots, hgd])]; exact hb, ?_⟩
    rcases hS with ⟨e, hd⟩ | ⟨e, hu⟩
    · exact .inl ⟨e, hdo hd⟩
    · exact .inr ⟨e, hu⟩

/-! ### what comes of those that have come up -/

def sel (L : Nat → Bool) : Nat → List (LI × U) → (Nat → S) → (Nat → S)
  | _, [], s => s
  | k, p :: r, s => sel L (k + 1) r (if L k = true then upO s p.1.dst p.2.val else s)
def selH (L : Nat → Bool) : Nat → List (LI × U) → (Nat → Option Ob) → (Nat → Option Ob)
  | _, [], h => h
  | k, p :: r, h => selH L (k + 1) r (if L k = true then hwr h p.2.wr else h)

theorem upO_ne {s : Nat → S} {d : Option Nat} {x : S} {t : Nat} (h : d ≠ some t) : upO s d x t = s t := by
  cases d with
  | none => rfl
  | some d => exact up_ne _ _ _ (fun e => h (by rw [e]))

theorem sel_same {t : Nat} : ∀ (l : List (LI × U)) (k : Nat) (L L' : Nat → Bool) (s s' : Nat → S), s t = s' t → (∀ (j : Nat) (p : LI × U), l[j]? = some p → p.1.dst = some t → L (k + j) = L' (k + j)) → sel L k l s t = sel L' k l s' t
  | [], _, _, _, _, _, hs, _ => hs
  | p :: r, k, L, L', s, s', hs, h => by
    simp only [sel]
    refine sel_same r (k + 1) L L' _ _ ?_ (fun j q hq hd => by have := h (j + 1) q (by simpa using hq) hd; rw [show k + 1 + j = k + (j + 1) by omega]; exact this)
    by_cases hd : p.1.dst = some t
    · have := h 0 p rfl hd
      simp only [Nat.add_zero] at this
      rw [← this]
      split
      · rw [hd]; simp [upO]
      · exact hs
    · split <;> split <;> (try rw [upO_ne hd]) <;> (try rw [upO_ne hd]) <;> exact hs

theorem hwr_ne {id : Nat} : ∀ (wr : List (Nat × Ob)) (h : Nat → Option Ob), id ∉ wr.map (·.1) → hwr h wr id = h id
  | [], _, _ => rfl
  | p :: r, h, hn => by
    simp only [List.map_cons, List.mem_cons, not_or] at hn
    rw [hwr_cons, hwr_ne r _ hn.2, up_ne _ _ _ hn.1]

theorem hwr_in {id : Nat} : ∀ (wr : List (Nat × Ob)) (h h' : Nat → Option Ob), id ∈ wr.map (·.1) → hwr h wr id = hwr h' wr id
  | [], _, _, hn => by simp at hn
  | p :: r, h, h', hn => by
    rw [hwr_cons, hwr_cons]
    by_cases hr : id ∈ r.map (·.1)
    · exact hwr_in r _ _ hr
    · simp only [List.map_cons, List.mem_cons] at hn
      have e : id = p.1 := hn.resolve_right hr
      rw [hwr_ne r _ hr, hwr_ne r _ hr, e]; simp

theorem selH_same {id : Nat} : ∀ (l : List (LI × U)) (k : Nat) (L L' : Nat → Bool) (h h' : Nat → Option Ob), h id = h' id → (∀ (j : Nat) (p : LI × U), l[j]? = some p → id ∈ p.2.wr.map (·.1) → L (k + j) = L' (k + j)) → selH L k l h id = selH L' k l h' id
  | [], _, _, _, _, _, hs, _ => hs
  | p :: r, k, L, L', h, h', hs, hh => by
    simp only [selH]
    refine selH_same r (k + 1) L L' _ _ ?_ (fun j q hq hd => by have := hh (j + 1) q (by simpa using hq) hd; rw [show k + 1 + j = k + (j + 1) by omega]; exact this)
    by_cases hd : id ∈ p.2.wr.map (·.1)
    · have := hh 0 p rfl hd
      simp only [Nat.add_zero] at this
      rw [← this]
      split
      · exact hwr_in _ _ _ hd
      · exact hs
    · split <;> split <;> (try rw [hwr_ne _ _ hd]) <;> (try rw [hwr_ne _ _ hd]) <;> exact hs

/-- The last that writes a slot tells what it holds. -/
theorem sel_last {t : Nat} : ∀ (l : List (LI × U)) (k j : Nat) (L : Nat → Bool) (s : Nat → S) (p : LI × U), l[j]? = some p → p.1.dst = some t → L (k + j) = true →
    (∀ (i : Nat) (q : LI × U), j < i → l[i]? = some q → q.1.dst = some t → L (k + i) = false) → sel L k l s t = p.2.val
  | [], _, _, _, _, _, h, _, _, _ => by simp at h
  | q :: r, k, j, L, s, p, h1, h2, h3, h4 => by
    simp only [sel]
    cases j with
    | zero =>
      simp at h1; subst h1
      simp only [Nat.add_zero] at h3
      rw [if_pos h3]
      have : ∀ (l : List (LI × U)) (k : Nat) (s : Nat → S), (∀ (i : Nat) (q : LI × U), l[i]? = some q → q.1.dst = some t → L (k + i) = false) → sel L k l s t = s t := by
        intro l
        induction l with
        | nil => intro k s _; rfl
        | cons q l ih =>
          intro k s hh
          simp only [sel]
          rw [ih (k + 1) _ (fun i q' hq hd => by have := hh (i + 1) q' (by simpa using hq) hd; rw [show k + 1 + i = k + (i + 1) by omega]; exact this)]
          by_cases hd : q.1.dst = some t
          · have := hh 0 q rfl hd
            simp only [Nat.add_zero] at this
            simp [this]
          · split
            · exact upO_ne hd
            · rfl
      rw [this r (k + 1) _ (fun i q' hq hd => by have := h4 (i + 1) q' (by omega) (by simpa using hq) hd; rw [show k + 1 + i = k + (i + 1) by omega]; exact this), h2]
      simp [upO]
    | succ j =>
      exact sel_last r (k + 1) j L _ p (by simpa using h1) h2 (by rw [show k + 1 + j = k + (j + 1) by omega]; exact h3) (fun i q' hi hq hd => by
        have := h4 (i + 1) q' (by omega) (by simpa using hq) hd; rw [show k + 1 + i = k + (i + 1) by omega]; exact this)

theorem selH_last {id : Nat} : ∀ (l : List (LI × U)) (k j : Nat) (L : Nat → Bool) (h h0 : Nat → Option Ob) (p : LI × U), l[j]? = some p → id ∈ p.2.wr.map (·.1) → L (k + j) = true →
    (∀ (i : Nat) (q : LI × U), j < i → l[i]? = some q → id ∈ q.2.wr.map (·.1) → L (k + i) = false) → selH L k l h id = hwr h0 p.2.wr id
  | [], _, _, _, _, _, _, h, _, _, _ => by simp at h
  | q :: r, k, j, L, h, h0, p, h1, h2, h3, h4 => by
    simp only [selH]
    cases j with
    | zero =>
      simp at h1; subst h1
      simp only [Nat.add_zero] at h3
      rw [if_pos h3]
      have : ∀ (l : List (LI × U)) (k : Nat) (h : Nat → Option Ob), (∀ (i : Nat) (q : LI × U), l[i]? = some q → id ∈ q.2.wr.map (·.1) → L (k + i) = false) → selH L k l h id = h id := by
        intro l
        induction l with
        | nil => intro k h _; rfl
        | cons q l ih =>
          intro k h hh
          simp only [selH]
          rw [ih (k + 1) _ (fun i q' hq hd => by have := hh (i + 1) q' (by simpa using hq) hd; rw [show k + 1 + i = k + (i + 1) by omega]; exact this)]
          by_cases hd : id ∈ q.2.wr.map (·.1)
          · have := hh 0 q rfl hd
            simp only [Nat.add_zero] at this
            simp [this]
          · split
            · exact hwr_ne _ _ hd
            · rfl
      rw [this r (k + 1) _ (fun i q' hq hd => by have := h4 (i + 1) q' (by omega) (by simpa using hq) hd; rw [show k + 1 + i = k + (i + 1) by omega]; exact this)]
      exact hwr_in _ _ _ h2
    | succ j =>
      exact selH_last r (k + 1) j L _ h0 p (by simpa using h1) h2 (by rw [show k + 1 + j = k + (j + 1) by omega]; exact h3) (fun i q' hi hq hd => by
        have := h4 (i + 1) q' (by omega) (by simpa using hq) hd; rw [show k + 1 + i = k + (i + 1) by omega]; exact this)

/-! ### who comes ahead of whom -/

/-- i comes ahead of j in every order. -/
def bf (ops : Array Oper) (i j : Nat) : Bool := ((Region.before ops).getD j 0).testBit i

def befOf (acc : Array Nat) (o : Oper) : Nat := o.after.foldl (fun s e => if Region.binds .any e = true then s ||| 2 ^ e.on ||| acc.getD e.on 0 else s) 0

theorem befOf_bit {acc : Array Nat} {o : Oper} {i : Nat} (h : (befOf acc o).testBit i = true) : ∃ e ∈ o.after, Region.binds .any e = true ∧ (e.on = i ∨ (acc.getD e.on 0).testBit i = true) := by
  have : ∀ (l : List Edge) (s : Nat), (l.foldl (fun s e => if Region.binds .any e = true then s ||| 2 ^ e.on ||| acc.getD e.on 0 else s) s).testBit i = true →
      s.testBit i = true ∨ ∃ e ∈ l, Region.binds .any e = true ∧ (e.on = i ∨ (acc.getD e.on 0).testBit i = true) := by
    intro l
    induction l with
    | nil => intro s h; exact .inl h
    | cons e l ih =>
      intro s h
      rw [List.foldl_cons] at h
      rcases ih _ h with h | ⟨e', h1, h2, h3⟩
      · by_cases hb : Region.binds .any e = true
        · rw [if_pos hb] at h
          simp only [Nat.testBit_or, Bool.or_eq_true, Nat.testBit_two_pow, decide_eq_true_eq] at h
          rcases h with (h | h) | h
          · exact .inl h
          · exact .inr ⟨e, by simp, hb, .inl h⟩
          · exact .inr ⟨e, by simp, hb, .inr h⟩
        · rw [if_neg hb] at h; exact .inl h
      · exact .inr ⟨e', by simp [h1], h2, h3⟩
  unfold befOf at h
  rw [← Array.foldl_toList] at h
  rcases this _ _ h with h | ⟨e, h1, h2, h3⟩
  · simp at h
  · exact ⟨e, by simpa using h1, h2, h3⟩

theorem fold_push (f : Array Nat → Oper → Nat) : ∀ (l : List Oper) (acc : Array Nat), (∀ k, k < acc.size → (l.foldl (fun acc o => acc.push (f acc o)) acc)[k]? = acc[k]?) ∧
    ∀ (j : Nat) (o : Oper), l[j]? = some o → ∃ acc' : Array Nat, (∀ k, k < acc.size + j → acc'[k]? = (l.foldl (fun acc o => acc.push (f acc o)) acc)[k]?) ∧ (l.foldl (fun acc o => acc.push (f acc o)) acc)[acc.size + j]? = some (f acc' o)
  | [], acc => ⟨fun _ _ => rfl, fun j o h => by simp at h⟩
  | o :: l, acc => by
    obtain ⟨h1, h2⟩ := fold_push f l (acc.push (f acc o))
    refine ⟨fun k hk => ?_, fun j o' hj => ?_⟩
    · rw [List.foldl_cons, h1 k (by simp; omega), Array.getElem?_push, if_neg (by omega)]
    · cases j with
      | zero =>
        simp at hj; subst hj
        refine ⟨acc, fun k hk => ?_, ?_⟩
        · rw [List.foldl_cons, h1 k (by simp; omega), Array.getElem?_push, if_neg (by omega)]
        · rw [List.foldl_cons, Nat.add_zero, h1 acc.size (by simp)]; simp
      | succ j =>
        obtain ⟨acc', g1, g2⟩ := h2 j o' (by simpa using hj)
        simp only [Array.size_push] at g1 g2
        refine ⟨acc', fun k hk => ?_, ?_⟩
        · rw [List.foldl_cons]; exact g1 k (by omega)
        · rw [List.foldl_cons, show acc.size + (j + 1) = acc.size + 1 + j by omega]; exact g2

theorem before_spec (ops : Array Oper) (hdir : ∀ (j : Nat) (o : Oper), ops[j]? = some o → ∀ e ∈ o.after, Region.binds .any e = true → e.on < j) (i j : Nat) (h : bf ops i j = true) :
    ∃ o e, ops[j]? = some o ∧ e ∈ o.after ∧ Region.binds .any e = true ∧ (e.on = i ∨ bf ops i e.on = true) := by
  have heq : Region.before ops = ops.toList.foldl (fun acc o => acc.push (befOf acc o)) #[] := by
    unfold Region.before befOf
    rw [← Array.foldl_toList]
  obtain ⟨h1, h2⟩ := fold_push befOf ops.toList #[]
  unfold bf at h
  cases hj : ops[j]? with
  | none =>
    have hsz : ∀ (l : List Oper) (acc : Array Nat), (l.foldl (fun acc o => acc.push (befOf acc o)) acc).size = acc.size + l.length := by
      intro l
      induction l with
      | nil => intro acc; rfl
      | cons o l ih => intro acc; rw [List.foldl_cons, ih]; simp; omega
    have hlen : ops.size ≤ j := by simpa using hj
    have : (Region.before ops)[j]? = none := by
      rw [heq, Array.getElem?_eq_none]
      rw [hsz]; simpa using hlen
    rw [Array.getD_eq_getD_getElem?, this] at h
    simp at h
  | some o =>
    obtain ⟨acc', g1, g2⟩ := h2 j o (by simpa using hj)
    simp only [List.size_toArray, List.length_nil, Nat.zero_add] at g1 g2
    rw [Array.getD_eq_getD_getElem?, heq, g2] at h
    simp only [Option.getD_some] at h
    obtain ⟨e, e1, e2, e3⟩ := befOf_bit h
    refine ⟨o, e, rfl, e1, e2, ?_⟩
    rcases e3 with e3 | e3
    · exact .inl e3
    · right
      unfold bf
      rw [Array.getD_eq_getD_getElem?, heq, ← g1 e.on (hdir j o hj e e1 e2), ← Array.getD_eq_getD_getElem?]
      exact e3

/-! ### the statement -/

/-- What is asked of the text: that edges lead back, and that who touches one slot is told apart. -/
structure Plan (P : Program) (N : Nat) (ops : Array Oper) (lis : List LI) : Prop where
  len : lis.length = ops.size
  tr : ∀ (j : Nat) (o : Oper) (li : LI), ops[j]? = some o → lis[j]? = some li → trLI P N ops o = some li
  dir : ∀ (j : Nat) (o : Oper), ops[j]? = some o → ∀ e ∈ o.after, Region.binds .any e = true → e.on < j
  slots : ∀ (i j : Nat) (p q : LI), i ≠ j → lis[i]? = some p → lis[j]? = some q → ∀ t, p.dst = some t → (t ∈ q.slots ∨ q.dst = some t) → bf ops i j = true ∨ bf ops j i = true

theorem bf_lt {ops : Array Oper} (hdir : ∀ (j : Nat) (o : Oper), ops[j]? = some o → ∀ e ∈ o.after, Region.binds .any e = true → e.on < j) (i : Nat) : ∀ j, bf ops i j = true → i < j := by
  intro j
  induction j using Nat.strongRecOn with
  | _ j ih =>
    intro h
    obtain ⟨o, e, h1, h2, h3, h4⟩ := before_spec ops hdir i j h
    have := hdir j o h1 e h2 h3
    rcases h4 with h4 | h4
    · omega
    · have := ih e.on this h4; omega

/-- What is listed holds all that comes ahead. -/
def Closed (ops : Array Oper) (L : Nat → Bool) : Prop := ∀ (j : Nat) (o : Oper), ops[j]? = some o → L j = true → ∀ e ∈ o.after, Region.binds .any e = true → L e.on = true

theorem closed_bf {ops : Array Oper} (hdir : ∀ (j : Nat) (o : Oper), ops[j]? = some o → ∀ e ∈ o.after, Region.binds .any e = true → e.on < j) {L : Nat → Bool} (hc : Closed ops L) (i : Nat) : ∀ j, bf ops i j = true → L j = true → L i = true := by
  intro j
  induction j using Nat.strongRecOn with
  | _ j ih =>
    intro h hL
    obtain ⟨o, e, h1, h2, h3, h4⟩ := before_spec ops hdir i j h
    have hL' := hc j o h1 hL e h2 h3
    rcases h4 with h4 | h4
    · rw [← h4]; exact hL'
    · exact ih e.on (hdir j o h1 e h2 h3) h4 hL'
end Go.Eng
