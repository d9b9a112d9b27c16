/-
  The engine, part Q: a promise from a body.
-/
import Derived.Test.YthbonnlhoaeflaaEngP
set_option linter.unusedVariables false
set_option linter.unusedSimpArgs false
namespace Go.Eng
open Go.RowKit Go.Lib

/-- What is brought, told by what is here. -/
structure Match (h : Nat → Option Ob) (xs : List S) (hA : List (Nat × Ob)) (args : List S) (σ : Nat → Option Nat) (L : List Nat) : Prop where
  a1 : args1 h (only σ (hget hA)) args xs
  a2 : ∀ i ob, hget hA i = some ob → ob.gen = 0 ∧ ∃ id ob', σ i = some id ∧ h id = some ob' ∧ body0 h (only σ (hget hA)) ob.body ob'.body ∧ (∀ j ∈ lentB ob.body ob'.body, j ∈ L)
  a3 : ∀ i j id, hget hA i ≠ none → hget hA j ≠ none → σ i = some id → σ j = some id → i = j
  a4 : ∀ id ∈ lents1 args xs, id ∈ L
  a5 : ∀ id ∈ L, ∀ i, hget hA i ≠ none → σ i ≠ some id

section
variable {Γ : Ctx} {s : Nat → S} {h : Nat → Option Ob} {a : Act} {w : World} {ok : Nat → Prop} {lv : Nat → Option Reg}

def okL (h : Nat → Option Ob) (ok : Nat → Prop) (lv : Nat → Option Reg) (L : List Nat) : Nat → Prop := fun b => ok b ∨ ∃ id ∈ L, ∃ ob r, h id = some ob ∧ ob.body.live = true ∧ lv id = some r ∧ r.blk = some b

theorem match_in (R : Rel Γ s h a w ok lv) {hA : List (Nat × Ob)} {args xs : List S} {σ : Nat → Option Nat} {L : List Nat} (C : Match h xs hA args σ L) :
    InRel w (okL h ok lv L) (lvF lv σ (hget hA)) (hget hA) ∧ args.length = xs.length ∧ ∀ (j : Nat) (y x : S) (v : Value), args[j]? = some y → xs[j]? = some x → RepS w ok lv x v → RepS w (okL h ok lv L) (lvF lv σ (hget hA)) y v := by
  let okc : Nat → Prop := okL h ok lv L
  let σA := only σ (hget hA)
  have hσA : ∀ i id, σA i = some id → hget hA i ≠ none := by
    intro i id hi
    show hget hA i ≠ none
    simp only [σA, only] at hi
    split at hi
    · cases hi
    · rename_i h1; rw [h1]; simp
  have hσA2 : ∀ i id, σA i = some id → σ i = some id := by
    intro i id hi
    simp only [σA, only] at hi
    split at hi
    · cases hi
    · exact hi
  have hσA3 : ∀ i id, hget hA i ≠ none → σ i = some id → σA i = some id := by
    intro i id h1 h2
    simp only [σA, only]
    split
    · rename_i h3; exact absurd h3 h1
    · exact h2
  have heqF : lvF lv σA (hget hA) = lvF lv σ (hget hA) := by
    funext i
    simp only [lvF, σA, only]
    cases hget hA i <;> rfl
  have hlive : ∀ (B B' : Body), body0 h σA B B' → B'.live = true ∧ B.live = true := by
    intro B B' hb
    unfold body0 at hb
    split at hb
    · exact ⟨rfl, rfl⟩
    · exact ⟨rfl, rfl⟩
    · exact hb.elim
  have hlentlive : ∀ id ∈ L, ∀ r b, lv id = some r → r.blk = some b → (∃ ob, h id = some ob ∧ ob.body.live = true) → okc b := fun id hid r b h1 h2 ⟨ob, h3, h4⟩ => .inr ⟨id, hid, ob, r, h3, h4, h1, h2⟩
  have lent_live0 : ∀ {f x : S}, arg0 h σA f x → ∀ id ∈ lent0 f x, ∃ ob, h id = some ob ∧ ob.body.live = true := by
    intro f x hm id hid
    unfold lent0 at hid
    split at hid
    · simp at hid; subst hid
      simp only [arg0] at hm
      obtain ⟨g', sz', rs, e1, _⟩ := hm
      exact ⟨_, e1, rfl⟩
    · simp at hid
  have lents_live0 : ∀ {fs xs : List S}, args0 h σA fs xs → ∀ id ∈ lents0 fs xs, ∃ ob, h id = some ob ∧ ob.body.live = true := by
    intro fs
    induction fs with
    | nil => intro xs _ id hid; simp [lents0] at hid
    | cons f fs ih =>
      intro xs hm id hid
      cases xs with
      | nil => simp [lents0] at hid
      | cons x xs =>
        simp only [lents0, List.mem_append] at hid
        rcases hid with hid | hid
        · exact lent_live0 hm.1 id hid
        · exact ih hm.2 id hid
  have lent_live1 : ∀ {f x : S}, arg1 h σA f x → ∀ id ∈ lent1 f x, ∃ ob, h id = some ob ∧ ob.body.live = true := by
    intro f x hm id hid
    unfold lent1 at hid
    split at hid
    · exact lents_live0 hm.1 id hid
    · exact lents_live0 hm.2 id hid
    · rename_i hno hno2
      unfold arg1 at hm
      split at hm
      · exact absurd rfl (hno _ _ rfl)
      · exact absurd rfl (hno2 _ _ _ _ rfl)
      · exact lent_live0 hm id hid
  have InA : InRel w okc (lvF lv σ (hget hA)) (hget hA) := by
    have lvFget : ∀ i r, lvF lv σ (hget hA) i = some r → ∃ id r0, σ i = some id ∧ lv id = some r0 ∧ r = { r0 with gen := 0 } := by
      intro i r hr
      simp only [lvF] at hr
      split at hr
      · cases hr
      · split at hr
        · cases hr
        · rename_i id hid
          cases hq : lv id with
          | none => rw [hq] at hr; cases hr
          | some r0 => rw [hq] at hr; simp at hr; exact ⟨id, r0, hid, hq, hr.symm⟩
    refine ⟨?_, ?_, ?_, ?_, ?_⟩
    · intro i ob hi
      obtain ⟨g0, id, ob', e1, e2, e3, e4⟩ := C.a2 i ob hi
      obtain ⟨r, q1, q2, q3⟩ := R.hp id ob' e2
      refine ⟨{ r with gen := 0 }, by simp [lvF, hi, e1, q1], g0.symm, ?_⟩
      cases hb : ob.body with
      | dead => trivial
      | arr sz rows =>
        rw [hb] at e3
        cases hb' : ob'.body with
        | dead => rw [hb'] at e3; exact e3.elim
        | box => rw [hb'] at e3; exact e3.elim
        | arr sz' rows' =>
          rw [hb'] at e3 q3
          obtain ⟨rfl, rfl⟩ := e3
          obtain ⟨s1, s2, s3, s4⟩ := q3
          refine ⟨s1, s2, s3, ?_⟩
          cases hrb : r.blk with
          | none => rw [hrb] at s4; exact s4
          | some b =>
            rw [hrb] at s4
            obtain ⟨c, e, fz, i1, i2, i3, i4, i5⟩ := s4
            refine ⟨c, e, fz, i1, i2, i3, i4, fun k y hk => ?_⟩
            obtain ⟨u, u1, u2, u3⟩ := i5 k y hk
            refine ⟨u, u1, u2, ?_⟩
            rw [List.getElem?_map] at hk
            cases hq : rows.flatten[k]? with
            | none => rw [hq] at hk; cases hk
            | some z =>
              rw [hq] at hk; simp at hk; subst hk
              cases u3 with | d _ _ hd => exact .d _ _ (hd.mono (fun _ _ => rfl) (fun _ h => .inl h))
      | box fs =>
        rw [hb] at e3
        cases hb' : ob'.body with
        | dead => rw [hb'] at e3; exact e3.elim
        | arr => rw [hb'] at e3; exact e3.elim
        | box cs =>
          rw [hb'] at e3 q3
          rw [hb, hb'] at e4
          obtain ⟨s1, b, s2, c, e, fz, i1, i2, i3, i4, i5⟩ := q3
          obtain ⟨g1, g2⟩ := args0_get e3.1
          refine ⟨by rw [g1]; exact s1, b, s2, c, e, fz, i1, i2, i3, by rw [g1]; exact i4, fun k y hk => ?_⟩
          have hlt : k < cs.length := by rw [← g1]; exact (List.getElem?_eq_some_iff.1 hk).1
          obtain ⟨u, u1, u2, u3⟩ := i5 k _ (List.getElem?_eq_getElem hlt)
          obtain ⟨p1, p2⟩ := g2 k y _ hk (List.getElem?_eq_getElem hlt)
          exact ⟨u, u1, u2, heqF ▸ arg0_rep R (fun _ h => .inl h) hσA u3 p1 (fun j hj r b h1 h2 => hlentlive j (e4 j (p2 j hj)) r b h1 h2 (lent_live0 p1 j hj))⟩
    · intro i hi; simp [lvF, hi]
    · intro i j oi oj ri rj b hi hj hli hlj hri hrj hbi hbj
      obtain ⟨id, r0, e1, e2, rfl⟩ := lvFget i ri hri
      obtain ⟨jd, r1, f1, f2, rfl⟩ := lvFget j rj hrj
      obtain ⟨_, id', oi', p1, p2, p3, _⟩ := C.a2 i oi hi
      obtain ⟨_, jd', oj', t1, t2, t3, _⟩ := C.a2 j oj hj
      rw [e1] at p1; cases p1
      rw [f1] at t1; cases t1
      have := R.inj id jd oi' oj' r0 r1 b p2 t2 (hlive _ _ p3).1 (hlive _ _ t3).1 e2 f2 hbi hbj
      subst this
      exact C.a3 i j id (by rw [hi]; simp) (by rw [hj]; simp) e1 f1
    · rintro b (hb | ⟨id, hid, ob, r, h1, h2, h3, h4⟩)
      · exact R.okl b hb
      · obtain ⟨r2, q1, _, q3⟩ := R.hp id ob h1
        rw [h3] at q1; cases q1
        exact q3.lt h2 h4
    · intro b i ob r hb hi hlv hr hrb
      obtain ⟨id, r0, e1, e2, rfl⟩ := lvFget i r hr
      obtain ⟨_, id', ob', p1, p2, p3, _⟩ := C.a2 i ob hi
      rw [e1] at p1; cases p1
      rcases hb with hb | ⟨j, hj, oj, rj, h1, h2, h3, h4⟩
      · exact R.okn b id ob' r0 hb p2 (hlive _ _ p3).1 e2 hrb
      · have := R.inj j id oj ob' rj r0 b h1 p2 h2 (hlive _ _ p3).1 h3 e2 h4 hrb
        subst this
        exact C.a5 j hj i (by rw [hi]; simp) e1
  obtain ⟨al, ag⟩ := args1_get C.a1
  refine ⟨InA, al, fun j y x v hy hx hv => ?_⟩
  obtain ⟨p1, p2⟩ := ag j y x hy hx
  exact heqF ▸ arg1_rep R (fun _ h => .inl h) hσA hv p1 (fun q hq r b h1 h2 => hlentlive q (C.a4 q (p2 q hq)) r b h1 h2 (lent_live1 p1 q hq))

/-- What is to be returned: the results' slots, matched with what was promised. -/
def resS (res : S) : List S := match res with
  | .tup ss => ss
  | s => [s]

structure RetOk (ts : List Nat) (st : St) (pins : List Nat) (hB : List (Nat × Ob)) (res : S) : Prop where
  m : ∃ σ L, Match (hget st.h) (ts.map (get st.s)) hB (resS res) σ L ∧ ∀ i ∈ pins, hget hB i ≠ none → σ i = some i ∧ ∃ ob, hget st.h i = some ob ∧ ob.gen = 0
  one : ts.length = 1 → ∃ x, resS res = [x] ∧ (res = x)
  many : ts.length ≠ 1 → ∃ ss, res = .tup ss

def initS (args : List S) : List (Nat × S) := (List.range args.length).map fun i => (i, args.getD i .any)

theorem get_initS (args : List S) (t : Nat) : get (initS args) t = args.getD t .any := by
  have : ∀ (l : List Nat), get (l.map fun i => (i, args.getD i .any)) t = if t ∈ l then args.getD t .any else .any := by
    intro l
    induction l with
    | nil => rfl
    | cons k r ih =>
      simp only [List.map_cons, get]
      by_cases e : k = t
      · subst e; simp
      · rw [if_neg e, ih]
        have : t ∈ k :: r ↔ t ∈ r := by simp [Ne.symm e]
        simp only [this]
  unfold initS
  rw [this]
  split
  · rfl
  · rename_i hn
    have : args.length ≤ t := by simpa using hn
    rw [List.getD_eq_getElem?_getD, List.getElem?_eq_none this]; rfl

/-- The results are slots. -/
def resTmps (fn : Func) : Option (List Nat) := fn.results.toList.mapM fun
  | .tmp t => if t < fn.ntmps then some t else none
  | _ => none

theorem results_tmps {P : Program} {fn : Func} {ts : List Nat} (h : resTmps fn = some ts) (tmps : Array Value) (w : World) :
    (results fn tmps).run P w = .ok (match ts.map (fun t => tmps.getD t undef) with | [v] => v | l => .tuple l.toArray) w ∧ ∀ t ∈ ts, t < fn.ntmps := by
  have main : ∀ (l : List ResultVar) (ts : List Nat), (l.mapM fun (x : ResultVar) => (match x with
      | .tmp t => if t < fn.ntmps then some t else none
      | _ => none : Option Nat)) = some ts → l = ts.map .tmp ∧ ∀ t ∈ ts, t < fn.ntmps := by
    intro l
    induction l with
    | nil => intro ts h; simp at h; subst h; simp
    | cons x l ih =>
      intro ts h
      rw [List.mapM_cons] at h
      cases x with
      | cell => cases h
      | tmp t =>
        simp only at h
        by_cases ht : t < fn.ntmps
        · rw [if_pos ht] at h
          cases hl : (l.mapM fun (x : ResultVar) => (match x with
            | .tmp t => if t < fn.ntmps then some t else none
            | _ => none : Option Nat)) with
          | none => rw [hl] at h; cases h
          | some us =>
            rw [hl] at h; cases h
            obtain ⟨h1, h2⟩ := ih us hl
            exact ⟨by rw [h1]; rfl, by intro t' ht'; rcases List.mem_cons.1 ht' with rfl | h; exact ht; exact h2 _ h⟩
        · rw [if_neg ht] at h; cases h
  obtain ⟨h1, h2⟩ := main _ _ h
  refine ⟨?_, h2⟩
  have h3 : fn.results = (ts.map ResultVar.tmp).toArray := by rw [← h1]
  have h4 : ∀ (g : ResultVar → Sem Value), (∀ t, g (.tmp t) = pure (tmps.getD t undef)) → ∀ (l : List Nat), (l.map ResultVar.tmp).mapM g = pure (l.map fun t => tmps.getD t undef) := by
    intro g hg l
    induction l with
    | nil => rfl
    | cons t l ih => rw [List.map_cons, List.mapM_cons, ih, hg]; rfl
  unfold results
  rw [h3, List.mapM_toArray, h4 _ (fun _ => rfl)]
  simp only [map_pure, pure_bind]
  rcases ts with _ | ⟨t, _ | ⟨t2, r⟩⟩
  · rfl
  · rfl
  · rfl

/-- One result, and it lies in a cell. -/
def resCell (P : Program) (fn : Func) : Option (Nat × Nat × Bool) := match fn.results.toList with
  | [.cell a t] => if a < fn.ntmps then (match P.info? t, P.underlying t with
    | some i, some d => if isAggD d = false → i.size = 1 then some (a, i.size, isAggD d) else none
    | _, _ => none) else none
  | _ => none

theorem resCell_spec {P : Program} {fn : Func} {c0 n0 : Nat} {ag : Bool} (h : resCell P fn = some (c0, n0, ag)) :
    c0 < fn.ntmps ∧ ∃ tt inf td, fn.results.toList = [.cell c0 tt] ∧ P.info? tt = some inf ∧ P.underlying tt = some td ∧ inf.size = n0 ∧ ag = isAggD td ∧ (ag = false → n0 = 1) := by
  unfold resCell at h
  split at h
  · rename_i a t hr
    split at h
    · rename_i hlt
      split at h
      · rename_i i d hi hd
        split at h
        · rename_i h1
          cases h
          exact ⟨hlt, t, i, d, hr, hi, hd, rfl, rfl, h1⟩
        · cases h
      · cases h
    · cases h
  · cases h

/-- What lies in the result's cell is returned. -/
def RetCell (c0 n0 : Nat) (ag : Bool) (st : St) (pins : List Nat) (hB : List (Nat × Ob)) (res : S) : Prop :=
  ∃ id g cells, get st.s c0 = .ptr id g 0 0 ∧ hget st.h id = some ⟨g, .box cells⟩ ∧ cells.length = n0 ∧ RetOk [c0] ⟨(c0, if ag then .agg cells else cells.headD default) :: st.s, st.h⟩ pins hB res

theorem spec_of_vc {P : Program} (hm : P.follows .mixedOrders = true) {f : Nat} {fn : Func} {c : Code} (hf : P.funcs[f]? = some fn) (hb : fn.body = some c) {ts : List Nat} (hr : resTmps fn = some ts)
    (keep : Nat → Option Kp) {n : Nat} {l : LC} (hc : trC P fn.ntmps keep n c = some l) {pins : List Nat} {hA : List (Nat × Ob)} {args : List S} {hB : List (Nat × Ob)} {res : S} (hN : args.length ≤ fn.ntmps) (hpA : ∀ i ∈ pins, hget hA i ≠ none)
    (hv : vc P pins l ⟨initS args, hA⟩ fun e st => (e = .normal ∨ e = .ret) ∧ RetOk ts st pins hB res) : Spec P f pins hA args hB res := by
  intro w ok lv vs In hlen hrep
  refine calls_of_wp hf hb ?_
  let Γ : Ctx := ⟨P, fn.ntmps, w, ok, Own lv (hget hA), fun id => if id ∈ pins then lv id else none⟩
  have hp : ∀ id r, Γ.pin id = some r → id ∈ pins := by
    intro id r hr
    simp only [Γ] at hr
    split at hr
    · assumption
    · cases hr
  have R : Rel Γ (get (initS args)) (hget hA) { tmps := vs.toArray ++ Array.replicate (fn.ntmps - vs.toArray.size) undef, defers := [] } w ok lv := by
    refine ⟨?_, rfl, ?_, In.hp, In.hn, In.inj, In.okl, In.okn, ⟨rfl, rfl, rfl, Nat.le_refl _, fun _ _ _ => rfl⟩, fun b h => .inl h, fun id ob r b h1 h2 h3 h4 => .inl ⟨id, ob, r, h1, h2, h3, h4⟩, ?_, ?_⟩
    · show (vs.toArray ++ Array.replicate (fn.ntmps - vs.toArray.size) undef).size = fn.ntmps
      simp; omega
    · intro t v hv
      rw [get_initS]
      by_cases ht : t < args.length
      · rw [List.getD_eq_getElem?_getD, List.getElem?_eq_getElem ht]
        rw [Array.getElem?_append_left (by simp; omega)] at hv
        exact hrep t _ v (List.getElem?_eq_getElem ht) (by simpa using hv)
      · rw [List.getD_eq_getElem?_getD, List.getElem?_eq_none (by omega)]
        exact .any _
    · intro id r0 r h1 h2 _
      simp only [Γ] at h1
      split at h1
      · rw [h2] at h1; cases h1; rfl
      · cases h1
    · intro id r0 h1 h2
      have := In.hn id h2
      simp only [Γ] at h1
      split at h1
      · rw [this] at h1; cases h1
      · cases h1
  have hwp := vc_sound (Γ := Γ) hm hp keep n c l hc ⟨initS args, hA⟩ _ hv _ w ok lv R
  refine wp_mono hwp ?_
  rintro e a0 w' ⟨st, ok', lv', ⟨he, hret⟩, R0⟩
  have core : ∀ (ts : List Nat) (st : St) (a' : Act), Rel Γ (get st.s) (hget st.h) a' w' ok' lv' → RetOk ts st pins hB res → (∀ t ∈ ts, t < fn.ntmps) → (results fn a0.tmps).run P w' = .ok (match ts.map (fun t => a'.tmps.getD t undef) with | [v] => v | l => .tuple l.toArray) w' →
      a0.defers = [] ∧ ∃ v, (results fn a0.tmps).run P w' = .ok v w' ∧ ∃ v' ok2 lv2, Ending.returned v = .returned v' ∧ RepS w' ok2 lv2 res v' ∧ OutRel w w' ok ok2 lv lv2 (hget hA) (hget hB) (· ∈ pins) := by
    intro ts st a' R' hret hlt hres
    obtain ⟨⟨σ, L, M, hpin⟩, h1, h2⟩ := hret
    obtain ⟨I, al, hrp⟩ := match_in R' M
    have hts : ∀ t ∈ ts, a'.tmps[t]? = some (a'.tmps.getD t undef) := by
      intro t ht
      have := hlt t ht
      have hsz : t < a'.tmps.size := by rw [R'.tm]; exact this
      simp [hsz]
    have slot : ∀ (j t : Nat), ts[j]? = some t → RepS w' ok' lv' (get st.s t) (a'.tmps.getD t undef) := fun j t hj => R'.sl t _ (hts t (List.mem_of_getElem? hj))
    refine ⟨R0.df, _, hres, _, okL (hget st.h) ok' lv' L, lvF lv' σ (hget hB), rfl, ?_, ?_⟩
    · by_cases hone : ts.length = 1
      · obtain ⟨x, e1, e2⟩ := h1 hone
        subst e2
        obtain ⟨t, rfl⟩ := List.length_eq_one_iff.1 hone
        exact hrp 0 res (get st.s t) _ (by rw [e1]; rfl) rfl (slot 0 t rfl)
      · obtain ⟨ss, rfl⟩ := h2 hone
        have e : (match ts.map (fun t => a'.tmps.getD t undef) with | [v] => v | l => .tuple l.toArray) = Value.tuple (ts.map (fun t => a'.tmps.getD t undef)).toArray := by
          split
          · rename_i v hv
            exfalso
            have := congrArg List.length hv
            simp at this
            exact hone this
          · rfl
        rw [e]
        simp only [resS, List.length_map] at al
        refine .tup ss _ (by simp [al]) (fun k y u hk hu => ?_)
        rw [List.getElem?_map] at hu
        cases hq : ts[k]? with
        | none => rw [hq] at hu; cases hu
        | some t =>
          rw [hq] at hu; simp only [Option.map_some, Option.some.injEq] at hu; subst hu
          exact hrp k y (get st.s t) _ hk (by rw [List.getElem?_map, hq]; rfl) (slot k t hq)
    · have lvFget : ∀ i r, lvF lv' σ (hget hB) i = some r → ∃ id r0, σ i = some id ∧ lv' id = some r0 ∧ r = { r0 with gen := 0 } := by
        intro i r hr
        simp only [lvF] at hr
        split at hr
        · cases hr
        · split at hr
          · cases hr
          · rename_i id hid
            cases hq : lv' id with
            | none => rw [hq] at hr; cases hr
            | some r0 => rw [hq] at hr; simp at hr; exact ⟨id, r0, hid, hq, hr.symm⟩
      have hlive : ∀ (B B' : Body), body0 (hget st.h) (only σ (hget hB)) B B' → B'.live = true := by
        intro B B' hb
        unfold body0 at hb
        split at hb
        · rfl
        · rfl
        · exact hb.elim
      refine ⟨R'.fr.os, R'.fr.tape, R'.fr.output, R'.fr.size, R'.fr.block, ?_, I.inj, I.okl, I.okn, ?_, ?_, ?_⟩
      · intro id ob hob
        obtain ⟨r, q1, q2, q3⟩ := I.hp id ob hob
        have := (M.a2 id ob hob).1
        exact ⟨this, r, q1, q2.trans this, q3⟩
      · rintro b (hb | ⟨id, _, ob, r, g1, g2, g3, g4⟩)
        · exact R'.pv b hb
        · exact .inr (R'.ph id ob r b g1 g2 g3 g4)
      · intro i ob r b hi hli hr hrb
        obtain ⟨id, r0, e1, e2, rfl⟩ := lvFget i r hr
        obtain ⟨_, id', ob', f1, f2, f3, _⟩ := M.a2 i ob hi
        rw [e1] at f1; cases f1
        exact R'.ph id ob' r0 b f2 (hlive _ _ f3) e2 hrb
      · intro i r hi hn hr
        obtain ⟨e0, ob, e1, e2⟩ := hpin i hi hn
        obtain ⟨id, r0, f1, f2, rfl⟩ := lvFget i r hr
        rw [e0] at f1; cases f1
        obtain ⟨r1, q1, q2, _⟩ := R'.hp i ob e1
        rw [f2] at q1; cases q1
        have hg : r0.gen = 0 := q2.trans e2
        cases hl : lv i with
        | none =>
          exfalso
          cases hh : hget hA i with
          | none => exact hpA i hi hh
          | some oA =>
            obtain ⟨rA, g1, _⟩ := In.hp i oA hh
            rw [hl] at g1; cases g1
        | some rA =>
          have := R'.pn i rA r0 (by simp [Γ, hi, hl]) f2 hg
          subst this
          cases r0; simp at hg; subst hg; rfl
  obtain ⟨hres, hlt⟩ := results_tmps hr a0.tmps w'
  have fin := core ts st a0 R0 hret hlt hres
  rcases he with rfl | rfl
  · exact fin
  · exact fin

theorem spec_of_vcC {P : Program} (hm : P.follows .mixedOrders = true) {f : Nat} {fn : Func} {c : Code} (hf : P.funcs[f]? = some fn) (hb : fn.body = some c) {c0 n0 : Nat} {ag : Bool} (hr : resCell P fn = some (c0, n0, ag))
    (keep : Nat → Option Kp) {n : Nat} {l : LC} (hc : trC P fn.ntmps keep n c = some l) {pins : List Nat} {hA : List (Nat × Ob)} {args : List S} {hB : List (Nat × Ob)} {res : S} (hN : args.length ≤ fn.ntmps) (hpA : ∀ i ∈ pins, hget hA i ≠ none)
    (hv : vc P pins l ⟨initS args, hA⟩ fun e st => (e = .normal ∨ e = .ret) ∧ RetCell c0 n0 ag st pins hB res) : Spec P f pins hA args hB res := by
  intro w ok lv vs In hlen hrep
  refine calls_of_wp hf hb ?_
  let Γ : Ctx := ⟨P, fn.ntmps, w, ok, Own lv (hget hA), fun id => if id ∈ pins then lv id else none⟩
  have hp : ∀ id r, Γ.pin id = some r → id ∈ pins := by
    intro id r hr
    simp only [Γ] at hr
    split at hr
    · assumption
    · cases hr
  have R : Rel Γ (get (initS args)) (hget hA) { tmps := vs.toArray ++ Array.replicate (fn.ntmps - vs.toArray.size) undef, defers := [] } w ok lv := by
    refine ⟨?_, rfl, ?_, In.hp, In.hn, In.inj, In.okl, In.okn, ⟨rfl, rfl, rfl, Nat.le_refl _, fun _ _ _ => rfl⟩, fun b h => .inl h, fun id ob r b h1 h2 h3 h4 => .inl ⟨id, ob, r, h1, h2, h3, h4⟩, ?_, ?_⟩
    · show (vs.toArray ++ Array.replicate (fn.ntmps - vs.toArray.size) undef).size = fn.ntmps
      simp; omega
    · intro t v hv
      rw [get_initS]
      by_cases ht : t < args.length
      · rw [List.getD_eq_getElem?_getD, List.getElem?_eq_getElem ht]
        rw [Array.getElem?_append_left (by simp; omega)] at hv
        exact hrep t _ v (List.getElem?_eq_getElem ht) (by simpa using hv)
      · rw [List.getD_eq_getElem?_getD, List.getElem?_eq_none (by omega)]
        exact .any _
    · intro id r0 r h1 h2 _
      simp only [Γ] at h1
      split at h1
      · rw [h2] at h1; cases h1; rfl
      · cases h1
    · intro id r0 h1 h2
      have := In.hn id h2
      simp only [Γ] at h1
      split at h1
      · rw [this] at h1; cases h1
      · cases h1
  have hwp := vc_sound (Γ := Γ) hm hp keep n c l hc ⟨initS args, hA⟩ _ hv _ w ok lv R
  refine wp_mono hwp ?_
  rintro e a0 w' ⟨st, ok', lv', ⟨he, hret⟩, R0⟩
  have core : ∀ (ts : List Nat) (st : St) (a' : Act), Rel Γ (get st.s) (hget st.h) a' w' ok' lv' → RetOk ts st pins hB res → (∀ t ∈ ts, t < fn.ntmps) → (results fn a0.tmps).run P w' = .ok (match ts.map (fun t => a'.tmps.getD t undef) with | [v] => v | l => .tuple l.toArray) w' →
      a0.defers = [] ∧ ∃ v, (results fn a0.tmps).run P w' = .ok v w' ∧ ∃ v' ok2 lv2, Ending.returned v = .returned v' ∧ RepS w' ok2 lv2 res v' ∧ OutRel w w' ok ok2 lv lv2 (hget hA) (hget hB) (· ∈ pins) := by
    intro ts st a' R' hret hlt hres
    obtain ⟨⟨σ, L, M, hpin⟩, h1, h2⟩ := hret
    obtain ⟨I, al, hrp⟩ := match_in R' M
    have hts : ∀ t ∈ ts, a'.tmps[t]? = some (a'.tmps.getD t undef) := by
      intro t ht
      have := hlt t ht
      have hsz : t < a'.tmps.size := by rw [R'.tm]; exact this
      simp [hsz]
    have slot : ∀ (j t : Nat), ts[j]? = some t → RepS w' ok' lv' (get st.s t) (a'.tmps.getD t undef) := fun j t hj => R'.sl t _ (hts t (List.mem_of_getElem? hj))
    refine ⟨R0.df, _, hres, _, okL (hget st.h) ok' lv' L, lvF lv' σ (hget hB), rfl, ?_, ?_⟩
    · by_cases hone : ts.length = 1
      · obtain ⟨x, e1, e2⟩ := h1 hone
        subst e2
        obtain ⟨t, rfl⟩ := List.length_eq_one_iff.1 hone
        exact hrp 0 res (get st.s t) _ (by rw [e1]; rfl) rfl (slot 0 t rfl)
      · obtain ⟨ss, rfl⟩ := h2 hone
        have e : (match ts.map (fun t => a'.tmps.getD t undef) with | [v] => v | l => .tuple l.toArray) = Value.tuple (ts.map (fun t => a'.tmps.getD t undef)).toArray := by
          split
          · rename_i v hv
            exfalso
            have := congrArg List.length hv
            simp at this
            exact hone this
          · rfl
        rw [e]
        simp only [resS, List.length_map] at al
        refine .tup ss _ (by simp [al]) (fun k y u hk hu => ?_)
        rw [List.getElem?_map] at hu
        cases hq : ts[k]? with
        | none => rw [hq] at hu; cases hu
        | some t =>
          rw [hq] at hu; simp only [Option.map_some, Option.some.injEq] at hu; subst hu
          exact hrp k y (get st.s t) _ hk (by rw [List.getElem?_map, hq]; rfl) (slot k t hq)
    · have lvFget : ∀ i r, lvF lv' σ (hget hB) i = some r → ∃ id r0, σ i = some id ∧ lv' id = some r0 ∧ r = { r0 with gen := 0 } := by
        intro i r hr
        simp only [lvF] at hr
        split at hr
        · cases hr
        · split at hr
          · cases hr
          · rename_i id hid
            cases hq : lv' id with
            | none => rw [hq] at hr; cases hr
            | some r0 => rw [hq] at hr; simp at hr; exact ⟨id, r0, hid, hq, hr.symm⟩
      have hlive : ∀ (B B' : Body), body0 (hget st.h) (only σ (hget hB)) B B' → B'.live = true := by
        intro B B' hb
        unfold body0 at hb
        split at hb
        · rfl
        · rfl
        · exact hb.elim
      refine ⟨R'.fr.os, R'.fr.tape, R'.fr.output, R'.fr.size, R'.fr.block, ?_, I.inj, I.okl, I.okn, ?_, ?_, ?_⟩
      · intro id ob hob
        obtain ⟨r, q1, q2, q3⟩ := I.hp id ob hob
        have := (M.a2 id ob hob).1
        exact ⟨this, r, q1, q2.trans this, q3⟩
      · rintro b (hb | ⟨id, _, ob, r, g1, g2, g3, g4⟩)
        · exact R'.pv b hb
        · exact .inr (R'.ph id ob r b g1 g2 g3 g4)
      · intro i ob r b hi hli hr hrb
        obtain ⟨id, r0, e1, e2, rfl⟩ := lvFget i r hr
        obtain ⟨_, id', ob', f1, f2, f3, _⟩ := M.a2 i ob hi
        rw [e1] at f1; cases f1
        exact R'.ph id ob' r0 b f2 (hlive _ _ f3) e2 hrb
      · intro i r hi hn hr
        obtain ⟨e0, ob, e1, e2⟩ := hpin i hi hn
        obtain ⟨id, r0, f1, f2, rfl⟩ := lvFget i r hr
        rw [e0] at f1; cases f1
        obtain ⟨r1, q1, q2, _⟩ := R'.hp i ob e1
        rw [f2] at q1; cases q1
        have hg : r0.gen = 0 := q2.trans e2
        cases hl : lv i with
        | none =>
          exfalso
          cases hh : hget hA i with
          | none => exact hpA i hi hh
          | some oA =>
            obtain ⟨rA, g1, _⟩ := In.hp i oA hh
            rw [hl] at g1; cases g1
        | some rA =>
          have := R'.pn i rA r0 (by simp [Γ, hi, hl]) f2 hg
          subst this
          cases r0; simp at hg; subst hg; rfl
  obtain ⟨hlt, tt, inf, td, e1, e2, e3, e4, e5, e6⟩ := resCell_spec hr
  obtain ⟨id, g, cells, q1, q2, q3, q4⟩ := hret
  have hts : a0.tmps[c0]? = some (a0.tmps.getD c0 undef) := by
    have hsz : c0 < a0.tmps.size := by rw [R0.tm]; exact hlt
    simp [hsz]
  have hptr := R0.sl c0 _ hts
  rw [q1] at hptr
  have hld : loadW n0 ag (att (hget st.h) (.ptr id g 0 0)) (· = ⟨if ag then .agg cells else cells.headD default, []⟩) := by
    simp only [att, S.refs, List.map_cons, List.map_nil, q2, loadW]
    refine ⟨trivial, ?_⟩
    subst q3
    rw [List.drop_zero]
    unfold takeW
    cases ag with
    | true => simp
    | false =>
      have h1 := e6 rfl
      cases cells with
      | nil => simp at h1
      | cons c cs => simp
  obtain ⟨v, hrun, hv⟩ := load_pure R0 e2 e4 e3 e5 hptr hld
  obtain ⟨ad, had⟩ : ∃ ad, a0.tmps.getD c0 undef = .pointer (some ad) := by
    obtain ⟨r, _, _, _, b, _, hp⟩ := R0.ptr hptr q2 rfl
    exact ⟨_, hp⟩
  have hres : (results fn a0.tmps).run P w' = .ok v w' := by
    have h3 : fn.results = #[.cell c0 tt] := by apply Array.ext'; exact e1
    rw [had] at hrun
    unfold results
    rw [h3]
    have hrun' : (loadVar tt ad).run P w' = .ok v w' := by simpa [Instr.loadAt, Instr.sureAddr] using hrun
    have had' : a0.tmps[c0]?.getD undef = .pointer (some ad) := by rw [← Array.getD_eq_getD_getElem?]; exact had
    simp [had', asAddr, hrun']
  have R2 : Rel Γ (get ((c0, if ag then .agg cells else cells.headD default) :: st.s)) (hget st.h) (a0.put (some c0) v) w' ok' lv' := by
    have := R0.put c0 _ v hv
    rwa [← get_cons] at this
  have hsz : c0 < a0.tmps.size := by rw [R0.tm]; exact hlt
  have hget2 : (a0.put (some c0) v).tmps.getD c0 undef = v := by simp [Act.put, hsz]
  have fin := core [c0] ⟨_, st.h⟩ (a0.put (some c0) v) R2 q4 (by simpa using hlt) (by simp only [List.map_cons, List.map_nil, hget2]; exact hres)
  rcases he with rfl | rfl
  · exact fin
  · exact fin
end
end Go.Eng
