/-
  The engine, part N: states written out, and what a statement comes to on them.
-/
import Derived.Test.YthbonnlhoaeflaaEngM
set_option linter.unusedVariables false
set_option linter.unusedSimpArgs false
namespace Go.Eng
open Go.RowKit Go.Lib

def get (l : List (Nat × S)) (t : Nat) : S :=
  match l with
  | [] => .any
  | p :: r => if p.1 = t then p.2 else get r t

def hset (l : List (Nat × Ob)) (id : Nat) (ob : Ob) : List (Nat × Ob) :=
  match l with
  | [] => [(id, ob)]
  | p :: r => if p.1 = id then (id, ob) :: r else p :: hset r id ob

structure St where
  s : List (Nat × S)
  h : List (Nat × Ob)

theorem get_cons (l : List (Nat × S)) (d : Nat) (x : S) : get ((d, x) :: l) = up (get l) d x := by
  funext t
  simp only [get, up]
  by_cases h : d = t
  · subst h; simp
  · rw [if_neg h, if_neg (fun e => h e.symm)]

theorem hget_hset (l : List (Nat × Ob)) (id : Nat) (ob : Ob) : hget (hset l id ob) = up (hget l) id (some ob) := by
  funext j
  induction l with
  | nil =>
    simp only [hset, hget, up]
    by_cases h : id = j
    · subst h; simp
    · rw [if_neg h, if_neg (fun e => h e.symm)]
  | cons p r ih =>
    simp only [hset]
    by_cases hp : p.1 = id
    · rw [if_pos hp]
      simp only [hget, up]
      by_cases h : id = j
      · subst h; simp
      · rw [if_neg h, if_neg (fun e => h e.symm), if_neg (fun e => h (hp ▸ e))]
    · rw [if_neg hp]
      simp only [hget]
      by_cases h : p.1 = j
      · rw [if_pos h, up_ne _ _ _ (fun e => hp (h.trans e))]
        simp [hget, h]
      · rw [if_neg h, ih]
        by_cases e : j = id
        · subst e; simp
        · rw [up_ne _ _ _ e, up_ne _ _ _ e]; simp [hget, h]

def wrL : List (Nat × Ob) → List (Nat × Ob) → List (Nat × Ob)
  | h, [] => h
  | h, p :: r => wrL (hset h p.1 p.2) r

theorem hget_wrL : ∀ (wr h : List (Nat × Ob)), hget (wrL h wr) = hwr (hget h) wr
  | [], _ => rfl
  | p :: r, h => by simp only [wrL, hwr_cons]; rw [hget_wrL r, hget_hset]

def putS (l : List (Nat × S)) (d : Option Nat) (x : S) : List (Nat × S) :=
  match d with
  | some d => (d, x) :: l
  | none => l

theorem get_putS (l : List (Nat × S)) (d : Option Nat) (x : S) : get (putS l d x) = upO (get l) d x := by
  cases d with
  | none => rfl
  | some d => exact get_cons l d x

def St.app (st : St) (d : Option Nat) (u : U) : St := ⟨putS st.s d u.val, wrL st.h u.wr⟩

/-- A call, by what is promised of the callee. -/
def callW (P : Program) (f : Nat) (xs : List S) (h : Nat → Option Ob) (K : U → Prop) : Prop :=
  ∃ pins hA fargs hB res σ keep L gone, Spec P f pins hA fargs hB res ∧ CallOk h xs pins hA fargs hB res σ keep L gone ∧ K ⟨renS (only σ (hget hB)) (gmOf h pins σ) res, wrN h pins hB σ gone⟩

/-- A call of a function that is a value. -/
def callvW (P : Program) (y : S) (xs : List S) (h : Nat → Option Ob) (K : U → Prop) : Prop := ∃ f cs, fnIs y f cs ∧ callable P f = true ∧ callW P f (xs ++ cs) h K

def doW (P : Program) (d : Nat) (L : LOp) (st : St) (K : U → Prop) : Prop :=
  match L with
  | .callv x as => callvW P (evalA (get st.s) x) (as.map (evalA (get st.s))) (hget st.h) K
  | .call f as => callW P f (as.map (evalA (get st.s))) (hget st.h) K
  | L => opW d (nextGen (hget st.h d)) (fun x => att (hget st.h) (evalA (get st.s) x)) K L

theorem doW_lin {P : Program} {li : LI} {st : St} {K : U → Prop} (h : doW P (li.dst.getD 0) li.op st K) : ∃ u, doR P li (get st.s) (hget st.h) u ∧ K u := by
  unfold doW at h
  split at h
  · rename_i x as heq
    obtain ⟨f, cs, e1, e2, pins, hA, fargs, hB, res, σ, keep, L, gone, h1, h2, h3⟩ := h
    refine ⟨_, ?_, h3⟩
    unfold doR
    rw [heq]
    exact ⟨f, cs, e1, e2, pins, hA, fargs, hB, res, σ, keep, L, gone, h1, h2, rfl⟩
  · rename_i f as heq
    obtain ⟨pins, hA, fargs, hB, res, σ, keep, L, gone, h1, h2, h3⟩ := h
    refine ⟨_, ?_, h3⟩
    unfold doR
    rw [heq]
    exact ⟨pins, hA, fargs, hB, res, σ, keep, L, gone, h1, h2, rfl⟩
  · rename_i hnv hno
    obtain ⟨u, h1, h2⟩ := opW_lin h
    refine ⟨u, ?_, h2⟩
    unfold doR
    split
    · rename_i f as heq; exact absurd heq (hno f as)
    · rename_i x as heq; exact absurd heq (hnv x as)
    · exact h1

/-- One operation: what it waits on is decided. -/
def stepW (P : Program) (li : LI) (st : St) (K : St → U → Prop) : Prop :=
  match li.g with
  | none => doW P (li.dst.getD 0) li.op st (K st)
  | some (t, want) => match get st.s t with
    | .d (.v (.bool b)) => (b = want → doW P (li.dst.getD 0) li.op ⟨(t, vB want) :: st.s, st.h⟩ (K ⟨(t, vB want) :: st.s, st.h⟩)) ∧ (b = !want → K ⟨(t, vB !want) :: st.s, st.h⟩ ⟨.d (.v undef), []⟩)
    | .d (.v (.tuple a)) => a = #[] ∧ K st ⟨.d (.v undef), []⟩
    | _ => False

/-- Two written states that hold the same. -/
def St.same (a b : St) : Prop := get a.s = get b.s ∧ hget a.h = hget b.h

theorem stepW_lin {P : Program} {li : LI} {st : St} {K : St → U → Prop} (h : stepW P li st K) : ∃ st' u, st'.same st ∧ StepR P li (get st.s) (hget st.h) u ∧ K st' u := by
  unfold stepW at h
  split at h
  · rename_i hg
    obtain ⟨u, h1, h2⟩ := doW_lin h
    refine ⟨st, u, ⟨rfl, rfl⟩, ?_, h2⟩
    unfold StepR
    rw [hg]; exact h1
  · rename_i t want hg
    split at h
    · rename_i b hb
      have hsame : ∀ c, b = c → get ((t, vB c) :: st.s) = get st.s := by
        intro c e
        subst e
        rw [get_cons]
        funext q
        by_cases e : q = t
        · subst e; rw [up_same, hb]; rfl
        · rw [up_ne _ _ _ e]
      by_cases e : b = want
      · obtain ⟨u, h1, h2⟩ := doW_lin (h.1 e)
        refine ⟨⟨(t, vB want) :: st.s, st.h⟩, u, ⟨hsame want e, rfl⟩, ?_, h2⟩
        unfold StepR
        rw [hg]
        refine .inl ⟨b, hb, .inl ⟨e, ?_⟩⟩
        have := hsame want e
        simp only at h1
        rw [this] at h1; exact h1
      · have e' : b = !want := by cases b <;> cases want <;> simp_all
        refine ⟨⟨(t, vB !want) :: st.s, st.h⟩, ⟨.d (.v undef), []⟩, ⟨hsame _ e', rfl⟩, ?_, h.2 e'⟩
        unfold StepR
        rw [hg]
        exact .inl ⟨b, hb, .inr ⟨e, rfl⟩⟩
    · rename_i a ha
      obtain ⟨rfl, hk⟩ := h
      refine ⟨st, ⟨.d (.v undef), []⟩, ⟨rfl, rfl⟩, ?_, hk⟩
      unfold StepR
      rw [hg]
      exact .inr ⟨ha, rfl⟩
    · exact h.elim

/-- A statement in the text's order. -/
def run0 (P : Program) : List LI → St → (St → Prop) → Prop
  | [], st, K => K st
  | li :: r, st, K => stepW P li st fun st' u => run0 P r (st'.app li.dst u) K

/-! ### what a call looks at -/

def cellT (h : Nat → Option Ob) (ids : List Nat) : List Nat := ids.flatMap fun id => match h id with
  | some ⟨_, .box cs⟩ => cs.flatMap cellRefs
  | _ => []
def callT (h : Nat → Option Ob) (xs : List S) (hA hB : List (Nat × Ob)) (σ : Nat → Option Nat) (gone : List Nat) : List Nat :=
  xs.flatMap S.refs ++ (hA.map (·.1)).filterMap σ ++ (hB.map (·.1)).filterMap σ ++ cellT h ((hA.map (·.1)).filterMap σ) ++ gone

theorem arg0_congr {h h' : Nat → Option Ob} {σ : Nat → Option Nat} {f x : S} (hh : ∀ id ∈ cellRefs x, h' id = h id) (hm : arg0 h σ f x) : arg0 h' σ f x := by
  unfold arg0 at *
  split at hm
  · obtain ⟨g', sz', rs, e1, e2⟩ := hm
    exact ⟨g', sz', rs, by rw [hh _ (by simp [cellRefs])]; exact e1, e2⟩
  · exact hm
  · exact hm
  · obtain ⟨e1, e2, e3, ob, e4, e5⟩ := hm
    exact ⟨e1, e2, e3, ob, by rw [hh _ (by simp [cellRefs])]; exact e4, e5⟩
  · obtain ⟨e1, e2, e3, ob, e4, e5⟩ := hm
    exact ⟨e1, e2, e3, ob, by rw [hh _ (by simp [cellRefs])]; exact e4, e5⟩
  · exact hm
  · trivial
  · exact hm.elim

theorem args0_congr {h h' : Nat → Option Ob} {σ : Nat → Option Nat} : ∀ {fs xs : List S}, (∀ id ∈ xs.flatMap cellRefs, h' id = h id) → args0 h σ fs xs → args0 h' σ fs xs
  | [], [], _, _ => trivial
  | f :: fs, x :: xs, hh, hm => ⟨arg0_congr (fun id hid => hh id (by simp [hid])) hm.1, args0_congr (fun id hid => hh id (by
      obtain ⟨y, h1, h2⟩ := List.mem_flatMap.1 hid
      exact List.mem_flatMap.2 ⟨y, List.mem_cons_of_mem _ h1, h2⟩)) hm.2⟩
  | [], _ :: _, _, hm => hm.elim
  | _ :: _, [], _, hm => hm.elim

theorem arg1_congr {h h' : Nat → Option Ob} {σ : Nat → Option Nat} {f x : S} (hh : ∀ id ∈ x.refs, h' id = h id) (hm : arg1 h σ f x) : arg1 h' σ f x := by
  unfold arg1 at *
  split at hm
  · exact ⟨args0_congr hh hm.1, hm.2⟩
  · exact ⟨hm.1, args0_congr hh hm.2⟩
  · refine arg0_congr (fun id hid => hh id ?_) hm
    cases x <;> simp [cellRefs] at hid <;> simp [S.refs, hid]

theorem args1_congr {h h' : Nat → Option Ob} {σ : Nat → Option Nat} : ∀ {fs xs : List S}, (∀ id ∈ xs.flatMap S.refs, h' id = h id) → args1 h σ fs xs → args1 h' σ fs xs
  | [], [], _, _ => trivial
  | f :: fs, x :: xs, hh, hm => ⟨arg1_congr (fun id hid => hh id (by simp [hid])) hm.1, args1_congr (fun id hid => hh id (by
      obtain ⟨y, h1, h2⟩ := List.mem_flatMap.1 hid
      exact List.mem_flatMap.2 ⟨y, List.mem_cons_of_mem _ h1, h2⟩)) hm.2⟩
  | [], _ :: _, _, hm => hm.elim
  | _ :: _, [], _, hm => hm.elim

theorem call_congr {h h' : Nat → Option Ob} {xs : List S} {pins : List Nat} {hA hB : List (Nat × Ob)} {args : List S} {res : S} {σ : Nat → Option Nat} {keep : Bool} {L gone : List Nat}
    (C : CallOk h xs pins hA args hB res σ keep L gone) (hh : ∀ id ∈ callT h xs hA hB σ gone, h' id = h id) :
    CallOk h' xs pins hA args hB res σ keep L gone ∧ gmOf h' pins σ = gmOf h pins σ ∧ wrN h' pins hB σ gone = wrN h pins hB σ gone := by
  have himg : ∀ i id, σ i = some id → id ∈ callT h xs hA hB σ gone := by
    intro i id hs
    unfold callT
    rcases C.c0 i id hs with hi | hi
    · cases ho : hget hA i with
      | none => exact absurd ho hi
      | some ob =>
        have : id ∈ (hA.map (·.1)).filterMap σ := List.mem_filterMap.2 ⟨i, List.mem_map.2 ⟨_, hget_mem ho, rfl⟩, hs⟩
        simp only [List.mem_append]; exact .inl (.inl (.inl (.inr this)))
    · cases ho : hget hB i with
      | none => exact absurd ho hi
      | some ob =>
        have : id ∈ (hB.map (·.1)).filterMap σ := List.mem_filterMap.2 ⟨i, List.mem_map.2 ⟨_, hget_mem ho, rfl⟩, hs⟩
        simp only [List.mem_append]; exact .inl (.inl (.inr this))
  have hgm : gmOf h' pins σ = gmOf h pins σ := by
    funext i
    simp only [gmOf]
    cases hs : σ i with
    | none => rfl
    | some id => simp only; rw [hh id (himg i id hs)]
  refine ⟨?_, hgm, ?_⟩
  · refine ⟨args1_congr (fun id hid => hh id (by unfold callT; simp only [List.mem_append]; exact .inl (.inl (.inl (.inl hid))))) C.a1, fun i ob hi => ?_, C.a3, C.a4, C.a5, C.a6, C.a7, C.a8, C.a9, C.b1, C.b2, C.c0⟩
    obtain ⟨g0, id, ob', e1, e2, e3, e4⟩ := C.a2 i ob hi
    refine ⟨g0, id, ob', e1, by rw [hh id (himg i id e1)]; exact e2, ?_, e4⟩
    obtain ⟨g, B⟩ := ob'
    cases B with
    | dead => cases hb : ob.body <;> rw [hb] at e3 <;> exact e3.elim
    | arr sz rows => cases hb : ob.body <;> rw [hb] at e3 <;> first | exact e3 | exact e3.elim
    | box cs =>
      cases hb : ob.body with
      | dead => rw [hb] at e3; exact e3.elim
      | arr => rw [hb] at e3; exact e3.elim
      | box fs =>
        rw [hb] at e3
        refine ⟨args0_congr (fun j hj => hh j ?_) e3.1, e3.2⟩
        have hid : id ∈ (hA.map (·.1)).filterMap σ := List.mem_filterMap.2 ⟨i, List.mem_map.2 ⟨_, hget_mem hi, rfl⟩, e1⟩
        unfold callT
        simp only [List.mem_append]
        refine .inl (.inr ?_)
        unfold cellT
        exact List.mem_flatMap.2 ⟨id, hid, by rw [e2]; exact hj⟩
  · unfold wrN
    rw [hgm]
    congr 1
    have : ∀ (l : List Nat), (∀ id ∈ l, id ∈ gone) → (l.filterMap fun id => (h' id).map fun ob => (id, (⟨ob.gen, .dead⟩ : Ob))) = l.filterMap fun id => (h id).map fun ob => (id, ⟨ob.gen, .dead⟩) := by
      intro l
      induction l with
      | nil => intro _; rfl
      | cons j l ih =>
        intro hl
        simp only [List.filterMap_cons]
        rw [hh j (by unfold callT; simp only [List.mem_append]; exact .inr (hl j (by simp))), ih (fun id hid => hl id (by simp [hid]))]
    exact this gone (fun _ h => h)

/-- What an operation touches, told by what it came to. -/
def opT (li : LI) (st : St) (u : U) : List Nat := (li.dst.getD 0 :: (li.op.args.flatMap fun x => (evalA (get st.s) x).refs)) ++ u.wr.map (·.1)

/-- A statement that draws its order: 'un' tells who is ahead without a bond. -/
def doT (P : Program) (d : Nat) (L : LOp) (st : St) (K : U → List Nat → Prop) : Prop :=
  match L with
  | .callv x as => ∃ f cs, fnIs (evalA (get st.s) x) f cs ∧ callable P f = true ∧ ∃ pins hA fargs hB res σ keep L gone, Spec P f pins hA fargs hB res ∧ CallOk (hget st.h) (as.map (evalA (get st.s)) ++ cs) pins hA fargs hB res σ keep L gone ∧
      K ⟨renS (only σ (hget hB)) (gmOf (hget st.h) pins σ) res, wrN (hget st.h) pins hB σ gone⟩ (callT (hget st.h) (as.map (evalA (get st.s)) ++ cs) hA hB σ gone)
  | .call f as => ∃ pins hA fargs hB res σ keep L gone, Spec P f pins hA fargs hB res ∧ CallOk (hget st.h) (as.map (evalA (get st.s))) pins hA fargs hB res σ keep L gone ∧
      K ⟨renS (only σ (hget hB)) (gmOf (hget st.h) pins σ) res, wrN (hget st.h) pins hB σ gone⟩ (callT (hget st.h) (as.map (evalA (get st.s))) hA hB σ gone)
  | .mv x => K ⟨evalA (get st.s) x, []⟩ [d]
  | L => opW d (nextGen (hget st.h d)) (fun x => att (hget st.h) (evalA (get st.s) x)) (fun u => K u ((d :: (L.args.flatMap fun x => (evalA (get st.s) x).refs)) ++ u.wr.map (·.1))) L

def stepT (P : Program) (li : LI) (st : St) (K : St → U → List Nat → Prop) : Prop :=
  match li.g with
  | none => doT P (li.dst.getD 0) li.op st (K st)
  | some (t, want) => match get st.s t with
    | .d (.v (.bool b)) => (b = want → doT P (li.dst.getD 0) li.op ⟨(t, vB want) :: st.s, st.h⟩ (K ⟨(t, vB want) :: st.s, st.h⟩)) ∧ (b = !want → K ⟨(t, vB !want) :: st.s, st.h⟩ ⟨.d (.v undef), []⟩ [])
    | .d (.v (.tuple a)) => a = #[] ∧ K st ⟨.d (.v undef), []⟩ []
    | _ => False

def apartW (a b : List Nat × List Nat) : Bool := (a.1.all fun x => !b.2.contains x) && (b.1.all fun x => !a.2.contains x)

def run1 (P : Program) : List (LI × List Nat) → St → List (List Nat × List Nat) → (St → Prop) → Prop
  | [], st, _, K => K st
  | (li, un) :: r, st, tr, K => stepT P li st fun st' u T => (un.all fun i => apartW (tr.getD i ([], [])) (u.wr.map (·.1), T)) = true ∧ run1 P r (st'.app li.dst u) (tr ++ [(u.wr.map (·.1), T)]) K

theorem wrN_img {h : Nat → Option Ob} {pins : List Nat} {hA hB : List (Nat × Ob)} {xs : List S} {σ : Nat → Option Nat} {gone : List Nat} : ∀ id ∈ (wrN h pins hB σ gone).map (·.1), id ∈ callT h xs hA hB σ gone := by
  intro id hid
  obtain ⟨p, hp, rfl⟩ := List.mem_map.1 hid
  unfold wrN at hp
  unfold callT
  simp only [List.mem_append] at hp ⊢
  rcases hp with hp | hp
  · obtain ⟨j, h1, h2⟩ := List.mem_filterMap.1 hp
    cases hj : h j with
    | none => rw [hj] at h2; cases h2
    | some ob => rw [hj] at h2; simp at h2; subst h2; exact .inr h1
  · obtain ⟨q, h1, h2⟩ := List.mem_filterMap.1 hp
    cases hs : σ q.1 with
    | none => rw [hs] at h2; cases h2
    | some j =>
      rw [hs] at h2; simp at h2; subst h2
      exact .inl (.inl (.inr (List.mem_filterMap.2 ⟨q.1, List.mem_map.2 ⟨q, by simpa using h1, rfl⟩, hs⟩)))

theorem stepT_lin {P : Program} {li : LI} {st : St} {K : St → U → List Nat → Prop} (h : stepT P li st K) :
    ∃ st' u T, st'.same st ∧ Loc P li (get st.s) (hget st.h) u T ∧ (∀ id ∈ u.wr.map (·.1), id ∈ T) ∧ K st' u T := by
  have main : ∀ (st2 : St) (K : U → List Nat → Prop), st2.same st → doT P (li.dst.getD 0) li.op st2 K → ∃ u T, (∀ s' h', (∀ t ∈ li.slots, s' t = get st.s t) → (∀ id ∈ T, h' id = hget st.h id) → doR P li s' h' u) ∧ (∀ id ∈ u.wr.map (·.1), id ∈ T) ∧ K u T := by
    rintro st2 K ⟨e1, e2⟩ hd
    unfold doT at hd
    rw [e1, e2] at hd
    split at hd
    · rename_i x as heq
      obtain ⟨f, cs, hx1, hx2, pins, hA, fargs, hB, res, σ, keep, L, gone, h1, h2, h3⟩ := hd
      refine ⟨_, _, fun s' h' g1 g2 => ?_, wrN_img, h3⟩
      unfold doR
      rw [heq]
      have hargs : as.map (evalA s') = as.map (evalA (get st.s)) := List.map_congr_left fun y hy => evalA_congr fun t ht => g1 t (List.mem_append_left _ (List.mem_flatMap.2 ⟨y, by rw [heq]; exact List.mem_cons_of_mem _ hy, ht⟩))
      have hargx : evalA s' x = evalA (get st.s) x := evalA_congr fun t ht => g1 t (List.mem_append_left _ (List.mem_flatMap.2 ⟨x, by rw [heq]; exact List.mem_cons_self .., ht⟩))
      obtain ⟨c1, c2, c3⟩ := call_congr h2 g2
      refine ⟨f, cs, by rw [hargx]; exact hx1, hx2, pins, hA, fargs, hB, res, σ, keep, L, gone, h1, by rw [hargs]; exact c1, by rw [c2, c3]⟩
    · rename_i f as heq
      obtain ⟨pins, hA, fargs, hB, res, σ, keep, L, gone, h1, h2, h3⟩ := hd
      refine ⟨_, _, fun s' h' g1 g2 => ?_, wrN_img, h3⟩
      unfold doR
      rw [heq]
      have hargs : as.map (evalA s') = as.map (evalA (get st.s)) := List.map_congr_left fun x hx => evalA_congr fun t ht => g1 t (List.mem_append_left _ (List.mem_flatMap.2 ⟨x, by rw [heq]; exact hx, ht⟩))
      obtain ⟨c1, c2, c3⟩ := call_congr h2 g2
      refine ⟨pins, hA, fargs, hB, res, σ, keep, L, gone, h1, by rw [hargs]; exact c1, by rw [c2, c3]⟩
    · rename_i x heq
      refine ⟨_, _, fun s' h' g1 g2 => ?_, by simp, hd⟩
      unfold doR
      rw [heq]
      have hargx : evalA s' x = evalA (get st.s) x := evalA_congr fun t ht => g1 t (List.mem_append_left _ (List.mem_flatMap.2 ⟨x, by rw [heq]; exact List.mem_cons_self .., ht⟩))
      show (⟨evalA s' x, []⟩ : U) = _
      rw [hargx]
    · rename_i hnv hno hnm
      obtain ⟨u, h1, h2⟩ := opW_lin hd
      refine ⟨u, _, fun s' h' g1 g2 => ?_, fun id hid => List.mem_append_right _ hid, h2⟩
      have hcall : li.op.isCall = false := by cases hop : li.op <;> first | rfl | (exact absurd hop (hno _ _)) | (exact absurd hop (hnv _ _))
      have hS : StepR P ⟨li.dst, none, li.op⟩ (get st.s) (hget st.h) u := by
        unfold StepR doR
        simp only
        exact h1
      have := loc_op (li := ⟨li.dst, none, li.op⟩) hcall hS s' h' (fun t ht => g1 t (by
          simp only [LI.slots, List.append_nil] at ht
          exact List.mem_append_left _ ht)) (fun id hid => g2 id (List.mem_append_left _ hid))
      unfold StepR doR at this
      unfold doR
      exact this
  unfold stepT at h
  split at h
  · rename_i hg
    obtain ⟨u, T, h1, h2, h3⟩ := main st _ ⟨rfl, rfl⟩ h
    refine ⟨st, u, T, ⟨rfl, rfl⟩, fun s' h' g1 g2 => ?_, h2, h3⟩
    unfold StepR
    rw [hg]; exact h1 s' h' g1 g2
  · rename_i t want hg
    split at h
    · rename_i b hb
      have hsame : ∀ c, b = c → get ((t, vB c) :: st.s) = get st.s := by
        intro c e
        subst e
        rw [get_cons]
        funext q
        by_cases e : q = t
        · subst e; rw [up_same, hb]; rfl
        · rw [up_ne _ _ _ e]
      have hts : t ∈ li.slots := by simp [LI.slots, hg]
      by_cases e : b = want
      · obtain ⟨u, T, h1, h2, h3⟩ := main ⟨(t, vB want) :: st.s, st.h⟩ _ ⟨hsame want e, rfl⟩ (h.1 e)
        refine ⟨⟨(t, vB want) :: st.s, st.h⟩, u, T, ⟨hsame want e, rfl⟩, fun s' h' g1 g2 => ?_, h2, h3⟩
        unfold StepR
        rw [hg]
        exact .inl ⟨b, by rw [g1 t hts]; exact hb, .inl ⟨e, h1 s' h' g1 g2⟩⟩
      · have e' : b = !want := by cases b <;> cases want <;> simp_all
        refine ⟨⟨(t, vB !want) :: st.s, st.h⟩, ⟨.d (.v undef), []⟩, [], ⟨hsame _ e', rfl⟩, fun s' h' g1 g2 => ?_, by simp, h.2 e'⟩
        unfold StepR
        rw [hg]
        exact .inl ⟨b, by rw [g1 t hts]; exact hb, .inr ⟨e, rfl⟩⟩
    · rename_i a ha
      obtain ⟨rfl, hk⟩ := h
      have hts : t ∈ li.slots := by simp [LI.slots, hg]
      refine ⟨st, ⟨.d (.v undef), []⟩, [], ⟨rfl, rfl⟩, fun s' h' g1 g2 => ?_, by simp, hk⟩
      unfold StepR
      rw [hg]
      exact .inr ⟨by rw [g1 t hts]; exact ha, rfl⟩
    · exact h.elim

/-! ### a run of it -/

theorem run0_run {P : Program} : ∀ (lis : List LI) (st : St) (K : St → Prop), run0 P lis st K →
    ∃ us : List U, us.length = lis.length ∧ (∃ st', K st' ∧ get st'.s = sel (fun _ => true) 0 (lis.zip us) (get st.s) ∧ hget st'.h = selH (fun _ => true) 0 (lis.zip us) (hget st.h)) ∧
      ∀ (j : Nat) (li : LI) (u : U), lis[j]? = some li → us[j]? = some u → StepR P li (sel (fun k => decide (k < j)) 0 (lis.zip us) (get st.s)) (selH (fun k => decide (k < j)) 0 (lis.zip us) (hget st.h)) u
  | [], st, K, h => ⟨[], rfl, ⟨st, h, rfl, rfl⟩, fun j li u hj => by simp at hj⟩
  | li :: r, st, K, h => by
    obtain ⟨st1, u, ⟨e1, e2⟩, hS, hK⟩ := stepW_lin h
    obtain ⟨us, g1, ⟨st', g2, g3, g4⟩, g5⟩ := run0_run r _ K hK
    have es : get (st1.app li.dst u).s = upO (get st.s) li.dst u.val := by simp only [St.app]; rw [get_putS, e1]
    have eh : hget (st1.app li.dst u).h = hwr (hget st.h) u.wr := by simp only [St.app]; rw [hget_wrL, e2]
    rw [es] at g3 g5
    rw [eh] at g4 g5
    have shift : ∀ (L : Nat → Bool) (l : List (LI × U)) (k : Nat) (s : Nat → S), sel L (k + 1) l s = sel (fun i => L (i + 1)) k l s := by
      intro L l
      induction l with
      | nil => intro k s; rfl
      | cons p l ih => intro k s; simp only [sel]; rw [ih]
    have shiftH : ∀ (L : Nat → Bool) (l : List (LI × U)) (k : Nat) (s : Nat → Option Ob), selH L (k + 1) l s = selH (fun i => L (i + 1)) k l s := by
      intro L l
      induction l with
      | nil => intro k s; rfl
      | cons p l ih => intro k s; simp only [selH]; rw [ih]
    refine ⟨u :: us, by simp [g1], ⟨st', g2, ?_, ?_⟩, fun j li' u' hj hu => ?_⟩
    · rw [g3]; simp only [List.zip_cons_cons, sel, if_true]; rw [shift]
    · rw [g4]; simp only [List.zip_cons_cons, selH, if_true]; rw [shiftH]
    · cases j with
      | zero =>
        simp at hj hu; subst hj hu
        have z1 : ∀ (l : List (LI × U)) (k : Nat) (s : Nat → S), sel (fun k => decide (k < 0)) k l s = s := by
          intro l; induction l with
          | nil => intro k s; rfl
          | cons p l ih => intro k s; simp only [sel]; rw [ih]; rfl
        have z2 : ∀ (l : List (LI × U)) (k : Nat) (s : Nat → Option Ob), selH (fun k => decide (k < 0)) k l s = s := by
          intro l; induction l with
          | nil => intro k s; rfl
          | cons p l ih => intro k s; simp only [selH]; rw [ih]; rfl
        rw [z1, z2]; exact hS
      | succ j =>
        have := g5 j li' u' (by simpa using hj) (by simpa using hu)
        simp only [List.zip_cons_cons, sel, selH, Nat.zero_lt_succ, decide_true, if_true]
        rw [shift, shiftH]
        simpa using this
end Go.Eng
