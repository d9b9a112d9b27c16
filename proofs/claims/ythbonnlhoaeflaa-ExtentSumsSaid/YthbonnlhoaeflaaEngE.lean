/-
  The engine, part E: what the machine's operations do is what part C says (memory that is made or written).
-/
import Derived.Test.YthbonnlhoaeflaaEngD
set_option linter.unusedVariables false
set_option linter.unusedSimpArgs false
namespace Go.Eng
open Go.RowKit
section
variable {Γ : Ctx} {s : Nat → S} {h : Nat → Option Ob} {a : Act} {w : World} {ok : Nat → Prop} {lv : Nat → Option Reg}

theorem RepS.isOne {x : S} {v : Value} (hx : RepS w ok lv x v) (hh : x.one = true) : v.oneCell' = true := by
  cases hx with
  | d z _ hz => cases hz with
    | v z => exact hh
    | nil => rfl
    | emp => rfl
    | sn => rfl
    | sl => rfl
  | pat => rfl
  | view _ _ _ _ _ _ h1 => exact h1
  | ptr _ _ _ _ _ _ h1 => exact h1
  | agg => cases hh
  | tup => cases hh
  | clo => cases hh
  | any => cases hh

/-- A value's cells stand for the abstract value's. -/
theorem RepS.cells {x : S} {v : Value} (hx : RepS w ok lv x v) (h1 : x.cellsOf.all S.one = true) :
    v.cells.toList.length = x.cellsOf.length ∧ ∀ (k : Nat) (y : S) (u : Value), x.cellsOf[k]? = some y → v.cells.toList[k]? = some u → RepS w ok lv y u ∧ u.oneCell' = true := by
  by_cases hagg : ∃ cs, x = .agg cs
  · obtain ⟨cs, rfl⟩ := hagg
    cases hx with
    | agg _ us hl ho hh => exact ⟨by simp [Value.cells, S.cellsOf, hl], fun k y u hk hu => ⟨hh k y u hk hu, ho k u hu⟩⟩
  · have hc : x.cellsOf = [x] := by cases x <;> first | rfl | exact absurd ⟨_, rfl⟩ hagg
    have ho : v.oneCell' = true := hx.isOne (by simpa [hc] using h1)
    rw [oneCell_not_agg ho, hc]
    refine ⟨rfl, fun k y u hk hu => ?_⟩
    cases k with
    | zero => simp at hk hu; subst hk hu; exact ⟨hx, ho⟩
    | succ k => simp at hk

theorem age {Γ : Ctx} (R : Rel Γ s h a w ok lv) (d : Nat) (r : Reg) (hr : lv d = some r) : r.gen < nextGen (h d) := by
  cases ho : h d with
  | none => rw [R.hn d ho] at hr; cases hr
  | some ob =>
    obtain ⟨r2, q1, q2, _⟩ := R.hp d ob ho
    rw [hr] at q1; cases q1
    simp [nextGen, q2]

/-- A new block is an owned row. -/
theorem Rel.newBlk (R : Rel Γ s h a w ok lv) (d : Nat) (B : Body) (c : Array Value) (e : TypeId) (fz : Nat × Nat) (sz : Nat) (w' : World)
    (h1 : w'.os = w.os) (h2 : w'.tape = w.tape) (h3 : w'.output = w.output) (h4 : w.heap.size ≤ w'.heap.size)
    (hold : ∀ k, k < w.heap.size → w'.heap[k]? = w.heap[k]?) (hnew : w'.heap[w.heap.size]? = some (.cells c e fz)) (hfz : fz.1 = fz.2 ∨ c.size ≤ fz.1)
    (hB : (∃ rows, B = .arr sz rows ∧ 0 < sz ∧ (∀ row ∈ rows, row.length = sz)) ∨ (∃ cs, B = .box cs ∧ sz = cs.length))
    (hlen : B.cells.length ≤ c.size) (hc : ∀ (k : Nat) (y : S), B.cells[k]? = some y → ∃ u, c[k]? = some u ∧ u.oneCell' = true ∧ RepS w ok lv y u) :
    Rel Γ s (up h d (some ⟨nextGen (h d), B⟩)) a w' ok (up lv d (some ⟨nextGen (h d), some w.heap.size, 0, sz, c.size⟩)) := by
  have hl : Later lv (up lv d (some ⟨nextGen (h d), some w.heap.size, 0, sz, c.size⟩)) := by
    intro i r hi
    by_cases e : i = d
    · subst e; exact ⟨_, up_same _ _ _, .inr (age R i r hi)⟩
    · exact ⟨r, by rw [up_ne _ _ _ e]; exact hi, .inl rfl⟩
  have hI : InBlk w' ok (up lv d (some ⟨nextGen (h d), some w.heap.size, 0, sz, c.size⟩)) w.heap.size ⟨nextGen (h d), some w.heap.size, 0, sz, c.size⟩ B.cells := by
    refine ⟨c, e, fz, hnew, rfl, hfz, by simpa using hlen, fun k y hk => ?_⟩
    obtain ⟨u, g1, g2, g3⟩ := hc k y hk
    exact ⟨u, by simpa using g1, g2, g3.mono (fun b hb => hold b (R.okl b hb)) (fun _ h => h) hl⟩
  refine R.upd d ⟨nextGen (h d), B⟩ _ w' (fun r hr => .inr (age R d r hr)) rfl h1 h2 h3 h4 (fun b hb _ => hold b hb) (fun b hb _ => .inl (by cases hb; exact Nat.le_refl _)) ?_
  rcases hB with ⟨rows, rfl, p1, p2⟩ | ⟨cs, rfl, p1⟩
  · exact ⟨rfl, p1, p2, hI⟩
  · exact ⟨p1, _, rfl, hI⟩

theorem alloc_frame (w : World) (o : Obj) : (w.alloc o).os = w.os ∧ (w.alloc o).tape = w.tape ∧ (w.alloc o).output = w.output ∧ w.heap.size ≤ (w.alloc o).heap.size ∧
    (∀ k, k < w.heap.size → (w.alloc o).heap[k]? = w.heap[k]?) ∧ (w.alloc o).heap[w.heap.size]? = some o :=
  ⟨rfl, rfl, rfl, by simp, fun k hk => heap_alloc_old w o k hk, heap_alloc_new w o⟩

/-- What a new variable's address is. -/
theorem new_ptr (d g sz tot : Nat) (lv : Nat → Option Reg) (b : Nat) : RepS w ok (up lv d (some ⟨g, some b, 0, sz, tot⟩)) (.ptr d g 0 0) (.pointer (some ⟨b, 0, none⟩)) :=
  .ptr _ _ _ _ _ ⟨g, some b, 0, sz, tot⟩ rfl (by simp) (Nat.le_refl _) (fun _ => ⟨b, rfl, by simp⟩)

/-- What a new row is. -/
theorem new_view (d g sz tot n cap : Nat) (lv : Nat → Option Reg) (b : Nat) (hn : n ≤ cap) (hc : cap * sz ≤ tot) : RepS w ok (up lv d (some ⟨g, some b, 0, sz, tot⟩)) (.view d g 0 n) (.slice (some ⟨b, 0, none⟩) n cap) :=
  .view _ _ _ _ _ ⟨g, some b, 0, sz, tot⟩ rfl (by simp) (Nat.le_refl _) (fun _ => ⟨cap, 0, rfl, hn, fun _ => ⟨by simp, by simpa using hc⟩⟩)

theorem alloc_does (R : Rel Γ s h a w ok lv) {t : TypeId} {i : TypeInfo} {z : Value} (hi : Γ.P.info? t = some i) (hz : i.zero = some z) (h1 : ∀ u ∈ z.cells.toList, u.oneCell' = true) (d : Nat) :
    Does Γ s h a w (Instr.alloc t true (.tuple #[])) ⟨.ptr d (nextGen (h d)) 0 0, [(d, ⟨nextGen (h d), .box (z.cells.toList.map fun v => .d (.v v))⟩)]⟩ := by
  obtain ⟨q1, q2, q3, q4, q5, q6⟩ := alloc_frame w (.cells z.cells t)
  refine ⟨.pointer (some ⟨w.heap.size, 0, none⟩), w.alloc (.cells z.cells t), ok, up lv d (some ⟨nextGen (h d), some w.heap.size, 0, (z.cells.toList.map fun v => S.d (.v v)).length, z.cells.size⟩), ?_, ?_, ?_⟩
  · simp [Instr.alloc, zeroValue, typeInfo, hi, hz, newVar, newRow]
  · refine R.newBlk d (.box (z.cells.toList.map fun v => .d (.v v))) z.cells t (0, 0) _ _ q1 q2 q3 q4 q5 q6 (by simp) (.inr ⟨_, rfl, rfl⟩) (by simp [Body.cells]) (fun k y hk => ?_)
    simp only [Body.cells, List.getElem?_map] at hk
    cases hq : z.cells.toList[k]? with
    | none => rw [hq] at hk; cases hk
    | some u =>
      rw [hq] at hk; simp at hk; subst hk
      exact ⟨u, by simpa using hq, h1 u (List.mem_of_getElem? hq), .d _ _ (.v _)⟩
  · exact new_ptr _ _ _ _ _ _

theorem box_does (R : Rel Γ s h a w ok lv) {t : TypeId} {xv : Value} {x : S} (hx : RepS w ok lv x xv) (h1 : x.cellsOf.all S.one = true) (d : Nat) :
    Does Γ s h a w (Instr.box t xv) ⟨.ptr d (nextGen (h d)) 0 0, [(d, ⟨nextGen (h d), .box x.cellsOf⟩)]⟩ := by
  obtain ⟨q1, q2, q3, q4, q5, q6⟩ := alloc_frame w (.cells xv.cells t)
  obtain ⟨c1, c2⟩ := hx.cells h1
  refine ⟨.pointer (some ⟨w.heap.size, 0, none⟩), w.alloc (.cells xv.cells t), ok, up lv d (some ⟨nextGen (h d), some w.heap.size, 0, x.cellsOf.length, xv.cells.size⟩), ?_, ?_, ?_⟩
  · simp [Instr.box, newVar, newRow]
  · refine R.newBlk d (.box x.cellsOf) xv.cells t (0, 0) _ _ q1 q2 q3 q4 q5 q6 (by simp) (.inr ⟨_, rfl, rfl⟩) (by simp only [Body.cells]; rw [← c1]; simp) (fun k y hk => ?_)
    simp only [Body.cells] at hk
    have hlt : k < xv.cells.toList.length := by rw [c1]; exact (List.getElem?_eq_some_iff.1 hk).1
    have hu := List.getElem?_eq_getElem hlt
    obtain ⟨g1, g2⟩ := c2 k y _ hk hu
    exact ⟨_, by simp, g2, g1⟩
  · exact new_ptr _ _ _ _ _ _

theorem replicate_flatten (n : Nat) (z : List D) : (List.replicate n z).flatten.length = n * z.length := by
  rw [List.length_flatten]; simp

theorem flatten_replicate_get (n : Nat) (z : List D) (k : Nat) (x : D) (h : (List.replicate n z).flatten[k]? = some x) : k < n * z.length ∧ z[k % z.length]? = some x := by
  induction n generalizing k with
  | zero => simp at h
  | succ n ih =>
    rw [List.replicate_succ, List.flatten_cons] at h
    by_cases hk : k < z.length
    · rw [List.getElem?_append_left hk] at h
      exact ⟨by rw [Nat.add_mul]; omega, by rw [Nat.mod_eq_of_lt hk]; exact h⟩
    · rw [List.getElem?_append_right (by omega)] at h
      obtain ⟨g1, g2⟩ := ih _ h
      refine ⟨by rw [Nat.add_mul]; omega, ?_⟩
      rw [Nat.mod_eq_sub_mod (by omega)]; exact g2

theorem mksl_does (R : Rel Γ s h a w ok lv) {t e : TypeId} {i : TypeInfo} {z : Value} {nv cv : Value} {n c : S} (ht : Γ.P.underlying t = some (.slice e)) (hi : Γ.P.info? e = some i) (hz : i.zero = some z)
    (hsz : i.size = z.cells.size) (h0 : 0 < i.size) (h1 : ∀ u ∈ z.cells.toList, u.oneCell' = true)
    (hn : RepS w ok lv n nv) (hc : RepS w ok lv c cv) (d : Nat) {u : U} (hW : mkslW d (nextGen (h d)) i.size i.bytes z.cells.toList n c (· = u)) : Does Γ s h a w (Instr.makeSlice t nv cv) u := by
  unfold mkslW at hW
  split at hW
  · rename_i k l k' m
    obtain ⟨p1, p2, p3, p4, rfl⟩ := hW
    have e1 := hn.dv
    have e2 := hc.dv
    subst e1 e2
    have hrun := run_make (P := Γ.P) w t e i z ht hi hz k k' l m p1 p2 (by omega) p4
    obtain ⟨q1, q2, q3, q4, q5, q6⟩ := alloc_frame w (.cells (madeCells z.cells (m.toNat * i.size)) e)
    have hmul : l.toNat * i.size ≤ m.toNat * i.size := Nat.mul_le_mul_right _ (by omega)
    refine ⟨_, _, ok, up lv d (some ⟨nextGen (h d), some w.heap.size, 0, i.size, (madeCells z.cells (m.toNat * i.size)).size⟩), hrun, ?_, ?_⟩
    · refine R.newBlk d (.arr i.size (List.replicate l.toNat (z.cells.toList.map .v))) _ e (0, 0) i.size _ q1 q2 q3 q4 q5 q6 (by simp) (.inl ⟨_, rfl, h0, fun row hr => ?_⟩) ?_ (fun k y hk => ?_)
      · rw [List.eq_of_mem_replicate hr]; simp [hsz]
      · simp only [Body.cells, List.length_map, replicate_flatten, size_madeCells]
        simpa [hsz] using hmul
      · simp only [Body.cells, List.getElem?_map] at hk
        cases hq : (List.replicate l.toNat (z.cells.toList.map D.v)).flatten[k]? with
        | none => rw [hq] at hk; cases hk
        | some x =>
          rw [hq] at hk; simp at hk; subst hk
          obtain ⟨g1, g2⟩ := flatten_replicate_get _ _ _ _ hq
          rw [List.length_map, Array.length_toList, ← hsz] at g1 g2
          rw [List.getElem?_map] at g2
          cases hy : z.cells.toList[k % i.size]? with
          | none => rw [hy] at g2; cases g2
          | some u =>
            rw [hy] at g2; simp at g2; subst g2
            refine ⟨u, ?_, h1 u (List.mem_of_getElem? hy), .d _ _ (.v _)⟩
            have hk2 : k < m.toNat * i.size := by omega
            have hlt : k % z.cells.size < z.cells.size := Nat.mod_lt _ (by omega)
            simp only [madeCells, Array.getElem?_map]
            rw [Array.getElem?_range]
            simp only [hk2, if_true, Option.map_some]
            rw [hsz] at hy
            simp only [Array.getElem?_toList] at hy
            rw [Array.getElem!_eq_getD, Array.getD_eq_getD_getElem?, hy]; rfl
    · exact new_view _ _ _ _ _ _ _ _ (by omega) (by rw [size_madeCells]; exact Nat.le_refl _)
  · exact hW.elim

theorem run_store_ok (P : Program) (w : World) (b k : Nat) (c : Array Value) (e : TypeId) (fz : Nat × Nat) (hw : w.heap[b]? = some (.cells c e fz)) (hk : k < c.size) (hfz : ¬ (fz.1 ≤ k ∧ k < fz.2)) (v : Value) (h1 : v.oneCell' = true) :
    (store ⟨b, k, none⟩ v).run P w = .ok () (w.setCell ⟨b, k, none⟩ v) := by
  rw [run_store P w _ v _ h1, cell_of_row w b k c e fz hw, Array.getElem?_eq_getElem hk]
  have : w.frozen? ⟨b, k, none⟩ = false := by
    simp only [World.frozen?, hw]
    simpa using hfz
  simp [this]

theorem setCell_heap (w : World) (b k : Nat) (c : Array Value) (e : TypeId) (fz : Nat × Nat) (v : Value) (hw : w.heap[b]? = some (.cells c e fz)) :
    (w.setCell ⟨b, k, none⟩ v).heap[b]? = some (.cells (c.setIfInBounds k v) e fz) := by
  rw [setCell_eq_setRow w b k c e fz v hw]
  exact setRow_heap w b c _ e fz hw

/-- Values stored one behind the other. -/
theorem store_cells (P : Program) (b o : Nat) (e : TypeId) (fz : Nat × Nat) : ∀ (vs : List Value) (i : Nat) (c : Array Value) (w : World), w.heap[b]? = some (.cells c e fz) → o + i + vs.length ≤ c.size →
    (∀ k, k < c.size → ¬ (fz.1 ≤ k ∧ k < fz.2)) → (∀ (k : Nat) (v : Value), vs[k]? = some v → v.oneCell' = true) →
    ∃ w' c', (storeCells ⟨b, o, none⟩ vs i).run P w = .ok () w' ∧ w'.os = w.os ∧ w'.tape = w.tape ∧ w'.output = w.output ∧ w'.heap.size = w.heap.size ∧ (∀ k, k ≠ b → w'.heap[k]? = w.heap[k]?) ∧
      w'.heap[b]? = some (.cells c' e fz) ∧ c'.size = c.size ∧ (∀ k, (o + i ≤ k ∧ k < o + i + vs.length) → c'[k]? = vs[k - (o + i)]?) ∧ (∀ k, ¬ (o + i ≤ k ∧ k < o + i + vs.length) → c'[k]? = c[k]?)
  | [], i, c, w, hw, _, _, _ => ⟨w, c, by simp [storeCells], rfl, rfl, rfl, rfl, fun _ _ => rfl, hw, rfl, fun k hk => by simp at hk; omega, fun _ _ => rfl⟩
  | v :: vs, i, c, w, hw, hfit, hfz, h1 => by
    simp only [List.length_cons] at hfit
    have hv := h1 0 v rfl
    have hst := run_store_ok P w b (o + i) c e fz hw (by omega) (hfz _ (by omega)) v hv
    have hw1 := setCell_heap w b (o + i) c e fz v hw
    obtain ⟨w', c', g1, g2, g3, g4, g5, g6, g7, g8, g9, g10⟩ := store_cells P b o e fz vs (i + 1) (c.setIfInBounds (o + i) v) (w.setCell ⟨b, o + i, none⟩ v) hw1 (by simp; omega) (by simpa using hfz) (fun k u hk => h1 (k + 1) u (by simpa using hk))
    refine ⟨w', c', ?_, g2, g3, g4, by simpa using g5, fun k hk => (g6 k hk).trans (heap_setCell_other w ⟨b, o + i, none⟩ k v hk), g7, by simpa using g8, fun k hk => ?_, fun k hk => ?_⟩
    · simp only [storeCells, Sem.run_bind, addr_add, hst, Result.andThen_ok]
      exact g1
    · simp only [List.length_cons] at hk
      by_cases e0 : k = o + i
      · subst e0
        rw [g10 (o + i) (by omega)]
        have : o + i < c.size := by omega
        simp [this]
      · rw [g9 k (by omega)]
        have e1 : k - (o + i) = k - (o + (i + 1)) + 1 := by omega
        rw [e1, List.getElem?_cons_succ]
    · simp only [List.length_cons] at hk
      rw [g10 k (by omega), Array.getElem?_setIfInBounds_ne (by omega)]

/-- A part of an owned row is written. -/
theorem InBlk.write {b : Nat} {r : Reg} {L L' : List S} (hI : InBlk w ok lv b r L) (hokb : ¬ ok b) (p : Nat) (us : List Value) (xs : List S) (hux : us.length = xs.length)
    (hus : ∀ (k : Nat) (y : S) (u : Value), xs[k]? = some y → us[k]? = some u → RepS w ok lv y u ∧ u.oneCell' = true) (hp : r.off + p + xs.length ≤ r.tot)
    (hL : r.off + L'.length ≤ r.tot)
    (hL' : ∀ (k : Nat) (y : S), L'[k]? = some y → (p ≤ k ∧ k < p + xs.length ∧ xs[k - p]? = some y) ∨ (¬ (p ≤ k ∧ k < p + xs.length) ∧ L[k]? = some y)) (P : Program) :
    ∃ w', (storeCells ⟨b, r.off + p, none⟩ us).run P w = .ok () w' ∧ w'.os = w.os ∧ w'.tape = w.tape ∧ w'.output = w.output ∧ w'.heap.size = w.heap.size ∧ (∀ k, k ≠ b → w'.heap[k]? = w.heap[k]?) ∧
      ∀ lv', Later lv lv' → InBlk w' ok lv' b r L' := by
  obtain ⟨c, e, fz, h1, h2, h3, h4, h5⟩ := hI
  have h1s : ∀ (k : Nat) (v : Value), us[k]? = some v → v.oneCell' = true := by
    intro k v hk
    have hlt : k < xs.length := by rw [← hux]; exact (List.getElem?_eq_some_iff.1 hk).1
    exact (hus k _ v (List.getElem?_eq_getElem hlt) hk).2
  obtain ⟨w', c', g1, g2, g3, g4, g5, g6, g7, g8, g9, g10⟩ := store_cells P b (r.off + p) e fz us 0 c w h1 (by rw [hux, h2]; simpa using hp) (fun k hk => by omega) h1s
  refine ⟨w', g1, g2, g3, g4, g5, g6, fun lv' hl => ⟨c', e, fz, g7, g8.trans h2, by rw [g8]; exact h3, by rw [g8, h2]; exact hL, fun k y hk => ?_⟩⟩
  have hmono : ∀ b', ok b' → w'.heap[b']? = w.heap[b']? := fun b' hb' => g6 b' (fun e => hokb (e ▸ hb'))
  rcases hL' k y hk with ⟨p1, p2, p3⟩ | ⟨p1, p2⟩
  · have hlt : k - p < us.length := by omega
    obtain ⟨q1, q2⟩ := hus (k - p) y us[k - p] p3 (List.getElem?_eq_getElem hlt)
    refine ⟨us[k - p], ?_, q2, q1.mono hmono (fun _ h => h) hl⟩
    rw [g9 (r.off + k) (by omega)]
    have : r.off + k - (r.off + p + 0) = k - p := by omega
    rw [this, List.getElem?_eq_getElem hlt]
  · obtain ⟨u, q1, q2, q3⟩ := h5 k y p2
    refine ⟨u, ?_, q2, q3.mono hmono (fun _ h => h) hl⟩
    rw [g10 (r.off + k) (by omega)]
    exact q1

theorem setAt_length {α : Type} (l : List α) (k : Nat) (xs : List α) (h : k + xs.length ≤ l.length) : (setAt l k xs).length = l.length := by
  simp [setAt]; omega

theorem setAt_get {α : Type} (l : List α) (k : Nat) (xs : List α) (h : k + xs.length ≤ l.length) (j : Nat) (y : α) (hj : (setAt l k xs)[j]? = some y) :
    (k ≤ j ∧ j < k + xs.length ∧ xs[j - k]? = some y) ∨ (¬ (k ≤ j ∧ j < k + xs.length) ∧ l[j]? = some y) := by
  unfold setAt at hj
  have hkl : (l.take k).length = k := by simp; omega
  by_cases h1 : j < k
  · rw [List.append_assoc, List.getElem?_append_left (by omega), List.getElem?_take, if_pos h1] at hj
    exact .inr ⟨by omega, hj⟩
  · rw [List.append_assoc, List.getElem?_append_right (by omega), hkl] at hj
    by_cases h2 : j < k + xs.length
    · rw [List.getElem?_append_left (by omega)] at hj
      exact .inl ⟨by omega, h2, hj⟩
    · rw [List.getElem?_append_right (by omega), List.getElem?_drop] at hj
      refine .inr ⟨by omega, ?_⟩
      have : k + xs.length + (j - k - xs.length) = j := by omega
      rwa [this] at hj

theorem pureCells_nil {cs : List S} {o : List (Option Ob)} {xs : List D} (hp : pureCells cs o = some (xs, [])) : cs = xs.map .d := by
  induction cs generalizing o xs with
  | nil => simp [pureCells] at hp; subst hp; rfl
  | cons c cs ih =>
    simp only [pureCells] at hp
    split at hp
    · rename_i x w' o' hc
      split at hp
      · rename_i xs' ws hcs
        simp at hp
        obtain ⟨rfl, rfl, rfl⟩ := hp
        have hx : c = .d x := by
          unfold pureCell at hc
          split at hc
          · simp at hc; rw [hc.1]
          · split at hc
            · simp at hc
            · cases hc
          · cases hc
        rw [hx, ih hcs]; rfl
      · cases hp
    · cases hp

/-- A row's element is another: the whole row's cells. -/
theorem flatten_set {rows : List (List D)} {sz : Nat} (hr : ∀ r ∈ rows, r.length = sz) {n : Nat} (hn : n < rows.length) {q : List D} (hq : q.length = sz) (k : Nat) (x : D)
    (hk : (rows.set n q).flatten[k]? = some x) : (n * sz ≤ k ∧ k < n * sz + sz ∧ q[k - n * sz]? = some x) ∨ (¬ (n * sz ≤ k ∧ k < n * sz + sz) ∧ rows.flatten[k]? = some x) := by
  induction rows generalizing n k with
  | nil => simp at hn
  | cons p rows ih =>
    have hp : p.length = sz := hr p (by simp)
    cases n with
    | zero =>
      simp only [List.set_cons_zero, List.flatten_cons] at hk
      by_cases h1 : k < sz
      · rw [List.getElem?_append_left (by omega)] at hk
        exact .inl ⟨by omega, by omega, by simpa using hk⟩
      · rw [List.getElem?_append_right (by omega)] at hk
        refine .inr ⟨by omega, ?_⟩
        rw [List.flatten_cons, List.getElem?_append_right (by omega), hp]
        rwa [hq] at hk
    | succ n =>
      simp only [List.set_cons_succ, List.flatten_cons] at hk
      have e1 : (n + 1) * sz = n * sz + sz := by rw [Nat.add_mul]; omega
      by_cases h1 : k < sz
      · rw [List.getElem?_append_left (by omega)] at hk
        refine .inr ⟨by omega, ?_⟩
        rw [List.flatten_cons, List.getElem?_append_left (by omega)]; exact hk
      · rw [List.getElem?_append_right (by omega), hp] at hk
        rcases ih (fun r h => hr r (by simp [h])) (by simpa using hn) (k - sz) hk with ⟨a1, a2, a3⟩ | ⟨a1, a2⟩
        · refine .inl ⟨by omega, by omega, ?_⟩
          have : k - (n + 1) * sz = k - sz - n * sz := by omega
          rw [this]; exact a3
        · refine .inr ⟨by omega, ?_⟩
          rw [List.flatten_cons, List.getElem?_append_right (by omega), hp]; exact a2

theorem store_does (R : Rel Γ s h a w ok lv) {t : TypeId} {i : TypeInfo} {n : Nat} {av xv : Value} {y x : S} (hi : Γ.P.info? t = some i) (hn : i.size = n)
    (ha : RepS w ok lv y av) (hx : RepS w ok lv x xv) {u : U} (hW : storeW n (att h y) (att h x) (· = u)) :
    ∃ w' ok' lv', (Instr.storeAt t av xv).run Γ.P w = .ok () w' ∧ Rel Γ s (hwr h u.wr) a w' ok' lv' ∧ u.val = .any := by
  have key : ∀ (b o : Nat) (us : List Value) (w' : World), av = .pointer (some ⟨b, o, none⟩) → xv.cells.toList = us → us.length = n → (storeCells ⟨b, o, none⟩ us).run Γ.P w = .ok () w' → (Instr.storeAt t av xv).run Γ.P w = .ok () w' := by
    intro b o us w' e1 e2 e3 e4
    subst e1 e2
    have : xv.cells.size = n := by simpa using e3
    simp [Instr.storeAt, Instr.sureAddr, storeVar, sizeOf, typeInfo, hi, hn, this, e4]
  unfold storeW at hW
  split at hW
  · rename_i id g cell g' cells he
    obtain ⟨rfl, e2⟩ := Prod.mk.inj he
    have e2 : h id = some ⟨g', .box cells⟩ := by have e2 : [h id] = [some ⟨g', .box cells⟩] := e2; simpa using e2
    obtain ⟨hg, hl, hone, hfit, rfl⟩ := hW
    have hl : x.cellsOf.length = n := hl
    obtain ⟨r, q1, q2, q3, b, q4, rfl⟩ := R.ptr ha e2 hg
    obtain ⟨s1, b', s2, s3⟩ := q3
    rw [q4] at s2; cases s2
    obtain ⟨c1, c2⟩ := hx.cells hone
    have hnok : ¬ ok b := fun hb => R.okn b id _ r hb e2 rfl q1 q4
    have htot : r.off + cells.length ≤ r.tot := by obtain ⟨c, e, fz, a1, a2, a3, a4, a5⟩ := s3; omega
    have hlen : cell + (S.cellsOf x).length ≤ cells.length := by omega
    obtain ⟨w', g1, g2, g3, g4, g5, g6, g7⟩ := s3.write hnok cell xv.cells.toList (S.cellsOf x) c1 c2 (by omega) (L' := setAt cells cell (S.cellsOf x)) (by rw [setAt_length _ _ _ hlen]; exact htot) (fun k y hk => setAt_get _ _ _ hlen k y hk) Γ.P
    refine ⟨w', ok, up lv id (some r), key b (r.off + cell) _ w' (by simp) rfl (by rw [c1]; exact hl) g1, ?_, rfl⟩
    refine R.upd id ⟨g', .box (setAt cells cell (S.cellsOf x))⟩ r w' (fun r2 hr2 => .inl (by rw [q1] at hr2; cases hr2; rfl)) q2 g2 g3 g4 (by omega) (fun b2 hb2 hno => g6 b2 (fun e => hno _ r e2 rfl q1 (by rw [q4, e]))) (fun b2 hb2 _ => .inr ⟨_, r, e2, rfl, q1, hb2⟩) ?_
    refine ⟨by rw [setAt_length _ _ _ hlen]; exact s1, b, q4, g7 _ ?_⟩
    intro j rj hj
    by_cases e : j = id
    · subst e; exact ⟨r, up_same _ _ _, .inl (by rw [q1] at hj; cases hj; rfl)⟩
    · exact ⟨rj, by rw [up_ne _ _ _ e]; exact hj, .inl rfl⟩
  · rename_i id g row cell g' sz rows he
    obtain ⟨rfl, e2⟩ := Prod.mk.inj he
    have e2 : h id = some ⟨g', .arr sz rows⟩ := by have e2 : [h id] = [some ⟨g', .arr sz rows⟩] := e2; simpa using e2
    obtain ⟨hg, hlt, hone, hm⟩ := hW
    split at hm
    · rename_i xs hxs
      obtain ⟨hl, hfit, hu⟩ := hm
      have hu := hu rows[row] (List.getElem?_eq_getElem hlt)
      subst hu
      have hcs : S.cellsOf x = xs.map .d := pureCells_nil hxs
      obtain ⟨r, q1, q2, q3, b, q4, rfl⟩ := R.ptr ha e2 hg
      obtain ⟨s1, s2, s3, s4⟩ := q3
      rw [q4] at s4
      obtain ⟨c1, c2⟩ := hx.cells hone
      have hnok : ¬ ok b := fun hb => R.okn b id _ r hb e2 rfl q1 q4
      have hrow : rows[row].length = sz := s3 _ (List.getElem_mem hlt)
      have hlen : cell + xs.length ≤ rows[row].length := by omega
      have hset : ∀ q ∈ rows.set row (setAt rows[row] cell xs), q.length = sz := by
        intro q hq
        rcases List.mem_or_eq_of_mem_set hq with hq | rfl
        · exact s3 q hq
        · rw [setAt_length _ _ _ hlen]; exact hrow
      have hfl : (rows.set row (setAt rows[row] cell xs)).flatten.length = rows.flatten.length := by rw [flatten_length hset, flatten_length s3, List.length_set]
      have htot : r.off + rows.flatten.length ≤ r.tot := by obtain ⟨c, e, fz, a1, a2, a3, a4, a5⟩ := s4; rw [List.length_map] at a4; omega
      have hin : row * sz + sz ≤ rows.flatten.length := by
        rw [flatten_length s3]
        have : (row + 1) * sz ≤ rows.length * sz := Nat.mul_le_mul_right _ hlt
        rw [Nat.add_mul] at this; omega
      obtain ⟨w', g1, g2, g3, g4, g5, g6, g7⟩ := s4.write hnok (row * sz + cell) xv.cells.toList (S.cellsOf x) c1 c2 (by rw [hcs, List.length_map]; omega)
        (L' := (rows.set row (setAt rows[row] cell xs)).flatten.map .d) (by rw [List.length_map, hfl]; exact htot) (fun k y hk => by
          rw [List.getElem?_map] at hk
          cases hq : (rows.set row (setAt rows[row] cell xs)).flatten[k]? with
          | none => rw [hq] at hk; cases hk
          | some z =>
            rw [hq] at hk; simp at hk; subst hk
            rw [hcs, List.length_map, List.getElem?_map, List.getElem?_map]
            rcases flatten_set s3 hlt (by rw [setAt_length _ _ _ hlen]; exact hrow) k z hq with ⟨p1, p2, p3⟩ | ⟨p1, p2⟩
            · rcases setAt_get _ _ _ hlen _ z p3 with ⟨t1, t2, t3⟩ | ⟨t1, t2⟩
              · refine .inl ⟨by omega, by omega, ?_⟩
                have : k - (row * sz + cell) = k - row * sz - cell := by omega
                rw [this, t3]; rfl
              · refine .inr ⟨by omega, ?_⟩
                have := flatten_row s3 (List.getElem?_eq_getElem hlt) (k - row * sz) z t2
                have e : row * sz + (k - row * sz) = k := by omega
                rw [e] at this
                rw [this]; rfl
            · exact .inr ⟨by omega, by rw [p2]; rfl⟩) Γ.P
      refine ⟨w', ok, up lv id (some r), key b (r.off + row * r.sz + cell) _ w' rfl rfl (by rw [c1, hcs, List.length_map]; exact hl) (by
        have e : r.off + (row * sz + cell) = r.off + row * r.sz + cell := by rw [s1]; omega
        rw [← e]; exact g1), ?_, rfl⟩
      refine R.upd id ⟨g', .arr sz (rows.set row (setAt rows[row] cell xs))⟩ r w' (fun r2 hr2 => .inl (by rw [q1] at hr2; cases hr2; rfl)) q2 g2 g3 g4 (by omega) (fun b2 hb2 hno => g6 b2 (fun e => hno _ r e2 rfl q1 (by rw [q4, e]))) (fun b2 hb2 _ => .inr ⟨_, r, e2, rfl, q1, hb2⟩) ?_
      refine ⟨s1, s2, hset, ?_⟩
      rw [q4]
      refine g7 _ ?_
      intro j rj hj
      by_cases e : j = id
      · subst e; exact ⟨r, up_same _ _ _, .inl (by rw [q1] at hj; cases hj; rfl)⟩
      · exact ⟨rj, by rw [up_ne _ _ _ e]; exact hj, .inl rfl⟩
    · exact hm.elim
  · exact hW.elim

theorem slc0_run {P : Program} {w : World} {t e : TypeId} {i : TypeInfo} (ht : P.underlying t = some (.slice e)) (hi : P.info? e = some i) (p : Option Addr) (len cap : Nat) (k k' : IntKind) :
    (Instr.sliceAt t (.slice p len cap) none (some (.int k 0)) (some (.int k' 0))).run P w = .ok (.slice p 0 0) w := by
  simp [Instr.sliceAt, Instr.slice, run_underlying ht, Instr.sliceBounds, Instr.sliceBound, asIntOf, sizeOf, typeInfo, hi]

theorem slc0_does (R : Rel Γ s h a w ok lv) {t e : TypeId} {i : TypeInfo} {sz : Nat} {xv : Value} {x : S} {k k' : IntKind} (ht : Γ.P.underlying t = some (.slice e)) (hi : Γ.P.info? e = some i) (hx : RepS w ok lv x xv) (d : Nat) {u : U} (hW : slc0W d (nextGen (h d)) sz (att h x) (· = u)) :
    Does Γ s h a w (Instr.sliceAt t xv none (some (.int k 0)) (some (.int k' 0))) u := by
  have key : ∀ p len cap, xv = .slice p len cap → 0 < sz → Does Γ s h a w (Instr.sliceAt t xv none (some (.int k 0)) (some (.int k' 0))) ⟨.view d (nextGen (h d)) 0 0, [(d, ⟨nextGen (h d), .arr sz []⟩)]⟩ := by
    rintro p len cap rfl h0
    refine ⟨_, w, ok, up lv d (some ⟨nextGen (h d), none, 0, sz, 0⟩), slc0_run ht hi p len cap k k', ?_, ?_⟩
    · exact R.upd d ⟨nextGen (h d), .arr sz []⟩ _ w (fun r hr => .inr (age R d r hr)) rfl rfl rfl rfl (Nat.le_refl _) (fun _ _ _ => rfl) (fun b hb => by cases hb) ⟨rfl, h0, by simp, rfl⟩
    · exact .view _ _ _ _ _ ⟨nextGen (h d), none, 0, sz, 0⟩ rfl (up_same _ _ _) (Nat.le_refl _) (fun _ => ⟨rfl, p, rfl⟩)
  unfold slc0W at hW
  split at hW
  · rename_i he
    obtain ⟨rfl, _⟩ := Prod.mk.inj he
    obtain ⟨h0, rfl⟩ := hW
    cases hx with
    | d _ _ hx =>
      cases hx with
      | nil => exact key _ _ _ rfl h0
      | emp => exact key _ _ _ rfl h0
      | sl => exact key _ _ _ rfl h0
  · rename_i he
    obtain ⟨rfl, _⟩ := Prod.mk.inj he
    obtain ⟨h0, rfl⟩ := hW
    exact key _ _ _ hx.dv h0
  · rename_i id g0 off len g' sz' rows he
    obtain ⟨rfl, e2⟩ := Prod.mk.inj he
    have e2 : h id = some ⟨g', .arr sz' rows⟩ := by have e2 : [h id] = [some ⟨g', .arr sz' rows⟩] := e2; simpa using e2
    obtain ⟨hg, hle, h0, rfl⟩ := hW
    obtain ⟨r, q1, q2, q3, q4⟩ := R.view hx e2 hg
    unfold ViewAt at q4
    split at q4
    · obtain ⟨rfl, p0, rfl⟩ := q4; exact key _ _ _ rfl h0
    · obtain ⟨cap, o, rfl, _⟩ := q4; exact key _ _ _ rfl h0
  · exact hW.elim

theorem freeze_at (w : World) (b : Nat) (c : Array Value) (e : TypeId) (fz : Nat × Nat) (hw : w.heap[b]? = some (.cells c e fz)) :
    (w.freeze ⟨b, c.size, none⟩ 1).heap[b]? = some (.cells c e (if fz.1 == fz.2 then (c.size, c.size + 1) else (min fz.1 c.size, max fz.2 (c.size + 1)))) := by
  unfold World.freeze
  rw [if_neg (by decide)]
  simp only [Array.getElem?_modify, if_true, hw, Option.map_some]

theorem freeze_ne (w : World) (b n : Nat) (k : Nat) (h : k ≠ b) : (w.freeze ⟨b, n, none⟩ 1).heap[k]? = w.heap[k]? := by
  unfold World.freeze
  rw [if_neg (by decide)]
  simp only [Array.getElem?_modify]
  rw [if_neg (by omega)]

/-- '[]byte' of a text that the compiler knows: the row gets the run-time's mark behind its last cell. -/
theorem mark_does (R : Rel Γ s h a w ok lv) {t e : TypeId} {xv : Value} {x : S} (ht : Γ.P.underlying t = some (.slice e)) (he : Γ.P.underlying e = some (.int .u8)) (hx : RepS w ok lv x xv) {u : U} (hW : markW (att h x) (· = u)) :
    Does Γ s h a w (Go.convert t t xv) u := by
  unfold markW at hW
  split at hW
  · rename_i id g off len g' sz rows he2
    obtain ⟨rfl, e2⟩ := Prod.mk.inj he2
    have e2 : h id = some ⟨g', .arr sz rows⟩ := by have e2 : [h id] = [some ⟨g', .arr sz rows⟩] := e2; simpa using e2
    obtain ⟨hg, hle, hpos, rfl⟩ := hW
    obtain ⟨r, q1, q2, q3, q4⟩ := R.view hx e2 hg
    obtain ⟨s1, s2, s3, s4⟩ := q3
    unfold ViewAt at q4
    cases hb : r.blk with
    | none => rw [hb] at q4; simp only at q4; omega
    | some b =>
      rw [hb] at q4 s4
      simp only at q4
      obtain ⟨cap, o, rfl, hlc, hoff⟩ := q4
      have hnok : ¬ ok b := fun hb' => R.okn b id _ r hb' e2 rfl q1 hb
      obtain ⟨c, e', fz, i1, i2, i3, i4, i5⟩ := s4
      have hsh : w.shape? b = some (e', c.size) := by unfold World.shape?; rw [i1]
      have hrun : (Go.convert t t (.slice (some ⟨b, o, none⟩) len cap)).run Γ.P w = .ok (.slice (some ⟨b, o, none⟩) len cap) (w.freeze ⟨b, c.size, none⟩ 1) := by
        simp [Go.convert, run_underlying ht, run_underlying he, markStringish, hsh]
      have hmono : ∀ b', ok b' → (w.freeze ⟨b, c.size, none⟩ 1).heap[b']? = w.heap[b']? := fun b' hb' => freeze_ne w b _ b' (fun e => hnok (e ▸ hb'))
      have hl : Later lv (up lv id (some r)) := by
        intro j rj hj
        by_cases e : j = id
        · subst e; exact ⟨r, up_same _ _ _, .inl (by rw [q1] at hj; cases hj; rfl)⟩
        · exact ⟨rj, by rw [up_ne _ _ _ e]; exact hj, .inl rfl⟩
      refine ⟨_, _, ok, up lv id (some r), hrun, ?_, ?_⟩
      · refine R.upd id ⟨g', .arr sz rows⟩ r _ (fun r2 hr2 => .inl (by rw [q1] at hr2; cases hr2; rfl)) q2 rfl rfl rfl (by simp [World.freeze]) (fun b2 hb2 hno => freeze_ne w b _ b2 (fun e => hno _ r e2 rfl q1 (by rw [hb, e]))) (fun b2 hb2 _ => .inr ⟨_, r, e2, rfl, q1, hb2⟩) ?_
        refine ⟨s1, s2, s3, ?_⟩
        rw [hb]
        refine ⟨c, e', _, freeze_at w b c e' fz i1, i2, ?_, i4, fun k y hk => ?_⟩
        · split
          · exact .inr (Nat.le_refl _)
          · rename_i hne
            rcases i3 with i3 | i3
            · simp [i3] at hne
            · exact .inr (by simp only; omega)
        · obtain ⟨u, g1, g2, g3⟩ := i5 k y hk
          exact ⟨u, g1, g2, g3.mono hmono (fun _ h => h) hl⟩
      · exact hx.mono hmono (fun _ h => h) hl
  · exact hW.elim
end
end Go.Eng
