/-
  The engine, part A: what the abstract state is (values, owned rows, their relation to the machine's memory), and how the relation passes from world to world.
-/
import Derived.Orders
import Derived.Below
import Derived.Laws.Rows
import Derived.ScopeJumps
import Derived.KernelRfl
set_option linter.unusedVariables false
set_option linter.unusedSimpArgs false
namespace Go.Eng
open Go.RowKit

/-- Pure data: a value without memory, or a slice that is only read (rows of cells). -/
inductive D where
  | v (x : Value)
  | sl (sz : Nat) (rows : List (List D))
  | sn (sz : Nat) (rows : List (List D))
instance : Inhabited D := ⟨.v undef⟩

/-- What a slot holds: pure data · the address of cells that are only read · a slice of an owned row · an address in an owned row · a struct · several · nothing that is known. -/
inductive S where
  | d (x : D)
  | pat (cs : List D)
  | view (id gen off len : Nat)
  | ptr (id gen row cell : Nat)
  | agg (cs : List S)
  | tup (ss : List S)
  | clo (f : Nat) (cs : List S)
  | any
instance : Inhabited S := ⟨.any⟩

/-- Where an owned row lies: its age, its block, where it begins there, how wide an element is, how many cells the block has. -/
structure Reg where
  gen : Nat
  blk : Option Nat
  off : Nat
  sz : Nat
  tot : Nat

inductive Body where
  | dead
  | arr (sz : Nat) (rows : List (List D))
  | box (cells : List S)
instance : Inhabited Body := ⟨.dead⟩

structure Ob where
  gen : Nat
  body : Body
instance : Inhabited Ob := ⟨⟨0, .dead⟩⟩

def Body.live : Body → Bool
  | .dead => false
  | _ => true

def Body.cells : Body → List S
  | .dead => []
  | .arr _ rows => rows.flatten.map .d
  | .box cs => cs

inductive RepD (w : World) (ok : Nat → Prop) : D → Value → Prop where
  | v (x : Value) : RepD w ok (.v x) x
  | nil (sz : Nat) : RepD w ok (.sl sz []) (.slice none 0 0)
  | emp (sz : Nat) (a : Addr) (cap : Nat) : RepD w ok (.sl sz []) (.slice (some a) 0 cap)
  | sl (sz : Nat) (rows : List (List D)) (b o cap : Nat) (us : Nat → Value)
      (hr : ∀ r ∈ rows, r.length = sz) (hc : rows.length ≤ cap) (hb : rows ≠ [] → ok b)
      (h1 : ∀ k x, rows.flatten[k]? = some x → w.cell? ⟨b, o + k, none⟩ = some (us k) ∧ (us k).oneCell' = true)
      (h2 : ∀ k x, rows.flatten[k]? = some x → RepD w ok x (us k)) :
      RepD w ok (.sl sz rows) (.slice (some ⟨b, o, none⟩) rows.length cap)
  /-- a slice that is surely not nil -/
  | sn (sz : Nat) (rows : List (List D)) (a : Addr) (l c : Nat) (h : RepD w ok (.sl sz rows) (.slice (some a) l c)) : RepD w ok (.sn sz rows) (.slice (some a) l c)

def ViewAt (r : Reg) (off len : Nat) (v : Value) : Prop :=
  match r.blk with
  | none => len = 0 ∧ ∃ p, v = .slice p 0 0
  | some b => ∃ cap o, v = .slice (some ⟨b, o, none⟩) len cap ∧ len ≤ cap ∧ (0 < cap → o = r.off + off * r.sz ∧ r.off + (off + cap) * r.sz ≤ r.tot)

def PtrAt (r : Reg) (row cell : Nat) (v : Value) : Prop :=
  ∃ b, r.blk = some b ∧ v = .pointer (some ⟨b, r.off + row * r.sz + cell, none⟩)

inductive RepS (w : World) (ok : Nat → Prop) (lv : Nat → Option Reg) : S → Value → Prop where
  | d (x : D) (v : Value) (h : RepD w ok x v) : RepS w ok lv (.d x) v
  | pat (cs : List D) (b o : Nat) (us : Nat → Value) (hb : cs ≠ [] → ok b)
      (h1 : ∀ k x, cs[k]? = some x → w.cell? ⟨b, o + k, none⟩ = some (us k) ∧ (us k).oneCell' = true)
      (h2 : ∀ k x, cs[k]? = some x → RepD w ok x (us k)) : RepS w ok lv (.pat cs) (.pointer (some ⟨b, o, none⟩))
  | view (id gen off len : Nat) (v : Value) (r : Reg) (h1 : v.oneCell' = true) (hl : lv id = some r) (hg : gen ≤ r.gen) (h : gen = r.gen → ViewAt r off len v) : RepS w ok lv (.view id gen off len) v
  | ptr (id gen row cell : Nat) (v : Value) (r : Reg) (h1 : v.oneCell' = true) (hl : lv id = some r) (hg : gen ≤ r.gen) (h : gen = r.gen → PtrAt r row cell v) : RepS w ok lv (.ptr id gen row cell) v
  | agg (cs : List S) (us : List Value) (hl : us.length = cs.length) (h1 : ∀ (k : Nat) (u : Value), us[k]? = some u → u.oneCell' = true) (h : ∀ (k : Nat) (s : S) (u : Value), cs[k]? = some s → us[k]? = some u → RepS w ok lv s u) : RepS w ok lv (.agg cs) (.agg us.toArray)
  | tup (ss : List S) (us : List Value) (hl : us.length = ss.length) (h : ∀ (k : Nat) (s : S) (u : Value), ss[k]? = some s → us[k]? = some u → RepS w ok lv s u) : RepS w ok lv (.tup ss) (.tuple us.toArray)
  | clo (f : Nat) (cs : List S) (us : List Value) (hl : us.length = cs.length) (h : ∀ (k : Nat) (s : S) (u : Value), cs[k]? = some s → us[k]? = some u → RepS w ok lv s u) : RepS w ok lv (.clo f cs) (.func (.func f) #[] us.toArray)
  | any (v : Value) : RepS w ok lv .any v

theorem RepD.mono {w w' : World} {ok ok' : Nat → Prop} (hw : ∀ b, ok b → w'.heap[b]? = w.heap[b]?) (ho : ∀ b, ok b → ok' b) {x : D} {v : Value} (h : RepD w ok x v) : RepD w' ok' x v := by
  induction h with
  | v x => exact .v x
  | nil sz => exact .nil sz
  | emp sz a cap => exact .emp sz a cap
  | sn sz rows a l c _ ih => exact .sn sz rows a l c ih
  | sl sz rows b o cap us hr hc hb h1 h2 ih =>
    refine .sl sz rows b o cap us hr hc (fun h => ho _ (hb h)) (fun k x hk => ?_) ih
    have hne : rows ≠ [] := by intro e; subst e; simp at hk
    exact ⟨(World.cell?_of_block (a := ⟨b, o + k, none⟩) (hw b (hb hne))).trans (h1 k x hk).1, (h1 k x hk).2⟩

/-- How places pass on: what is there is the same, or has grown older. -/
def Later (lv lv' : Nat → Option Reg) : Prop := ∀ id r, lv id = some r → ∃ r', lv' id = some r' ∧ (r' = r ∨ r.gen < r'.gen)

theorem Later.refl (lv : Nat → Option Reg) : Later lv lv := fun _ r h => ⟨r, h, .inl rfl⟩

theorem RepS.mono {w w' : World} {ok ok' : Nat → Prop} {lv lv' : Nat → Option Reg} (hw : ∀ b, ok b → w'.heap[b]? = w.heap[b]?) (ho : ∀ b, ok b → ok' b) (hl : Later lv lv')
    {s : S} {v : Value} (h : RepS w ok lv s v) : RepS w' ok' lv' s v := by
  induction h with
  | d x v h => exact .d x v (h.mono hw ho)
  | pat cs b o us hb h1 h2 =>
    refine .pat cs b o us (fun h => ho _ (hb h)) (fun k x hk => ?_) (fun k x hk => (h2 k x hk).mono hw ho)
    have hne : cs ≠ [] := by intro e; subst e; simp at hk
    exact ⟨(World.cell?_of_block (a := ⟨b, o + k, none⟩) (hw b (hb hne))).trans (h1 k x hk).1, (h1 k x hk).2⟩
  | view id gen off len v r h1 hlr hg h =>
    obtain ⟨r', h', e⟩ := hl id r hlr
    rcases e with rfl | e
    · exact .view id gen off len v r' h1 h' hg h
    · exact .view id gen off len v r' h1 h' (by omega) (fun e => by omega)
  | ptr id gen row cell v r h1 hlr hg h =>
    obtain ⟨r', h', e⟩ := hl id r hlr
    rcases e with rfl | e
    · exact .ptr id gen row cell v r' h1 h' hg h
    · exact .ptr id gen row cell v r' h1 h' (by omega) (fun e => by omega)
  | agg cs us hl h1 _ ih => exact .agg cs us hl h1 ih
  | tup ss us hl _ ih => exact .tup ss us hl ih
  | clo f cs us hl _ ih => exact .clo f cs us hl ih
  | any v => exact .any v
end Go.Eng
