/-
  The engine, part O: statements in any order on written states; what is forgotten behind a statement; code, and what it comes to.
-/
import Derived.Test.YthbonnlhoaeflaaEngN
set_option linter.unusedVariables false
set_option linter.unusedSimpArgs false
namespace Go.Eng
open Go.RowKit Go.Lib

theorem run1_run {P : Program} : ∀ (lis : List (LI × List Nat)) (st : St) (tr : List (List Nat × List Nat)) (K : St → Prop), run1 P lis st tr K →
    ∃ (us : List U) (Ts : List (List Nat)), us.length = lis.length ∧ Ts.length = lis.length ∧
      (∃ st', K st' ∧ get st'.s = sel (fun _ => true) 0 ((lis.map (·.1)).zip us) (get st.s) ∧ hget st'.h = selH (fun _ => true) 0 ((lis.map (·.1)).zip us) (hget st.h)) ∧
      (∀ (j : Nat) (p : LI × List Nat) (u : U) (T : List Nat), lis[j]? = some p → us[j]? = some u → Ts[j]? = some T →
        Loc P p.1 (sel (fun k => decide (k < j)) 0 ((lis.map (·.1)).zip us) (get st.s)) (selH (fun k => decide (k < j)) 0 ((lis.map (·.1)).zip us) (hget st.h)) u T ∧ (∀ id ∈ u.wr.map (·.1), id ∈ T) ∧
        ∀ i ∈ p.2, i < tr.length + j → apartW ((tr ++ (us.zip Ts).map fun q => (q.1.wr.map (·.1), q.2)).getD i ([], [])) (u.wr.map (·.1), T) = true)
  | [], st, tr, K, h => ⟨[], [], rfl, rfl, ⟨st, h, rfl, rfl⟩, fun j p u T hj => by simp at hj⟩
  | (li, un) :: r, st, tr, K, h => by
    obtain ⟨st1, u, T, ⟨e1, e2⟩, hS, hW, hun, hK⟩ := stepT_lin h
    obtain ⟨us, Ts, g1, g1', ⟨st', g2, g3, g4⟩, g5⟩ := run1_run r _ _ K hK
    have es : get (st1.app li.dst u).s = upO (get st.s) li.dst u.val := by simp only [St.app]; rw [get_putS, e1]
    have eh : hget (st1.app li.dst u).h = hwr (hget st.h) u.wr := by simp only [St.app]; rw [hget_wrL, e2]
    rw [es] at g3 g5
    rw [eh] at g4 g5
    have shift : ∀ (L : Nat → Bool) (l : List (LI × U)) (k : Nat) (s : Nat → S), sel L (k + 1) l s = sel (fun i => L (i + 1)) k l s := by
      intro L l
      induction l with
      | nil => intro k s; rfl
      | cons p l ih => intro k s; simp only [sel]; rw [ih]
    have shiftH : ∀ (L : Nat → Bool) (l : List (LI × U)) (k : Nat) (s : Nat → Option Ob), selH L (k + 1) l s = selH (fun i => L (i + 1)) k l s := by
      intro L l
      induction l with
      | nil => intro k s; rfl
      | cons p l ih => intro k s; simp only [selH]; rw [ih]
    refine ⟨u :: us, T :: Ts, by simp [g1], by simp [g1'], ⟨st', g2, ?_, ?_⟩, fun j p' u' T' hj hu hT => ?_⟩
    · rw [g3]; simp only [List.map_cons, List.zip_cons_cons, sel, if_true]; rw [shift]
    · rw [g4]; simp only [List.map_cons, List.zip_cons_cons, selH, if_true]; rw [shiftH]
    · cases j with
      | zero =>
        simp at hj hu hT; subst hj hu hT
        have z1 : ∀ (l : List (LI × U)) (k : Nat) (s : Nat → S), sel (fun k => decide (k < 0)) k l s = s := by
          intro l; induction l with
          | nil => intro k s; rfl
          | cons p l ih => intro k s; simp only [sel]; rw [ih]; rfl
        have z2 : ∀ (l : List (LI × U)) (k : Nat) (s : Nat → Option Ob), selH (fun k => decide (k < 0)) k l s = s := by
          intro l; induction l with
          | nil => intro k s; rfl
          | cons p l ih => intro k s; simp only [selH]; rw [ih]; rfl
        rw [z1, z2]
        refine ⟨hS, hW, fun i hi hlt => ?_⟩
        rw [List.getD_eq_getElem?_getD, List.getElem?_append_left (by omega), ← List.getD_eq_getElem?_getD]
        exact (List.all_eq_true.1 hun) i hi
      | succ j =>
        obtain ⟨a1, a2, a3⟩ := g5 j p' u' T' (by simpa using hj) (by simpa using hu) (by simpa using hT)
        refine ⟨?_, a2, fun i hi hlt => ?_⟩
        · simp only [List.map_cons, List.zip_cons_cons, sel, selH, Nat.zero_lt_succ, decide_true, if_true]
          rw [shift, shiftH]
          simpa using a1
        · have := a3 i hi (by simp; omega)
          simpa [List.append_assoc] using this

/-! ### what is forgotten -/

def clean0 (pins : List Nat) (kp : Nat → Bool) (h : Nat → Option Ob) : S → S
  | .d x => .d x
  | .pat cs => .pat cs
  | .view id g off len => match h id with
    | some ob => if id ∈ pins then .view id g off len else if g = ob.gen ∧ (ob.body.live && kp id) = true then .view id 0 off len else .any
    | none => .any
  | .ptr id g row cell => match h id with
    | some ob => if id ∈ pins then .ptr id g row cell else if g = ob.gen ∧ (ob.body.live && kp id) = true then .ptr id 0 row cell else .any
    | none => .any
  | _ => .any
def clean1 (pins : List Nat) (kp : Nat → Bool) (h : Nat → Option Ob) : S → S
  | .agg cs => .agg (cs.map (clean0 pins kp h))
  | .clo f cs => .clo f (cs.map (clean0 pins kp h))
  | x => clean0 pins kp h x
def clean2 (pins : List Nat) (kp : Nat → Bool) (h : Nat → Option Ob) : S → S
  | .tup cs => .tup (cs.map (clean1 pins kp h))
  | x => clean1 pins kp h x
def cleanB (pins : List Nat) (kp : Nat → Bool) (h : Nat → Option Ob) : Body → Body
  | .box cs => .box (cs.map (clean0 pins kp h))
  | b => b

def hdel (id : Nat) : List (Nat × Ob) → List (Nat × Ob)
  | [] => []
  | p :: r => if p.1 = id then hdel id r else p :: hdel id r

theorem hget_hdel (id : Nat) (l : List (Nat × Ob)) (j : Nat) : hget (hdel id l) j = if j = id then none else hget l j := by
  induction l with
  | nil => simp [hdel, hget]
  | cons p r ih =>
    simp only [hdel]
    by_cases hp : p.1 = id
    · rw [if_pos hp, ih]
      by_cases e : j = id
      · simp [e]
      · rw [if_neg e, if_neg e]
        simp only [hget]
        rw [if_neg (fun q => e (q.symm.trans hp))]
    · rw [if_neg hp]
      simp only [hget]
      by_cases hj : p.1 = j
      · rw [if_pos hj, if_pos hj, if_neg (fun q => hp (hj.trans q))]
      · rw [if_neg hj, if_neg hj, ih]

/-- One row behind a statement. -/
def normO (pins : List Nat) (kp : Nat → Bool) (h : Nat → Option Ob) (id : Nat) (ob : Ob) : Option Ob :=
  if id ∈ pins then some ⟨ob.gen, cleanB pins kp h ob.body⟩ else if (ob.body.live && kp id) = true then some ⟨0, cleanB pins kp h ob.body⟩ else none

def normH (pins : List Nat) (kp : Nat → Bool) (h : Nat → Option Ob) : List (Nat × Ob) → List (Nat × Ob)
  | [] => []
  | p :: r => match normO pins kp h p.1 p.2 with
    | some ob => (p.1, ob) :: normH pins kp h r
    | none => hdel p.1 (normH pins kp h r)

theorem hget_normH (pins : List Nat) (kp : Nat → Bool) (h : Nat → Option Ob) : ∀ (l : List (Nat × Ob)) (j : Nat), hget (normH pins kp h l) j = (hget l j).bind (normO pins kp h j)
  | [], j => rfl
  | p :: r, j => by
    simp only [normH]
    split
    · rename_i ob hob
      simp only [hget]
      by_cases e : p.1 = j
      · subst e; simp [hob]
      · rw [if_neg e, if_neg e]; exact hget_normH pins kp h r j
    · rename_i hob
      rw [hget_hdel]
      simp only [hget]
      by_cases e : p.1 = j
      · subst e; simp [hob]
      · rw [if_neg e, if_neg (fun q => e q.symm)]; exact hget_normH pins kp h r j

def boxRefs : Body → List Nat
  | .box cs => cs.flatMap cellRefs
  | _ => []
def S.refs2 : S → List Nat
  | .tup cs => cs.flatMap S.refs
  | x => x.refs
/-- The rows that are still told of: those of the frame's arguments, and those that are referred to. -/
def kpOf (l : List Nat) (id : Nat) : Bool := decide (1000 ≤ id) || l.contains id
def St.kept (st : St) (keep : List Nat) : Nat → Bool := kpOf ((keep.flatMap fun t => (get st.s t).refs2) ++ st.h.flatMap fun p => boxRefs p.2.body)
def St.norm (pins keep : List Nat) (st : St) : St := ⟨keep.map fun t => (t, clean2 pins (st.kept keep) (hget st.h) (get st.s t)), normH pins (st.kept keep) (hget st.h) st.h⟩

section
variable {Γ : Ctx} {s : Nat → S} {h : Nat → Option Ob} {a : Act} {w : World} {ok : Nat → Prop} {lv : Nat → Option Reg}

def lvC (pins : List Nat) (kp : Nat → Bool) (h : Nat → Option Ob) (lv : Nat → Option Reg) : Nat → Option Reg := fun id => match h id with
  | none => none
  | some ob => if id ∈ pins then lv id else if (ob.body.live && kp id) = true then (lv id).map fun r => { r with gen := 0 } else none

theorem clean0_rep (R : Rel Γ s h a w ok lv) (pins : List Nat) (kp : Nat → Bool) {x : S} {v : Value} (hx : RepS w ok lv x v) : RepS w ok (lvC pins kp h lv) (clean0 pins kp h x) v := by
  cases hx with
  | d x v h => exact .d x v h
  | pat cs b o us hb h1 h2 => exact .pat cs b o us hb h1 h2
  | view id g off len v r hone hl hg hp =>
    simp only [clean0]
    cases ho : h id with
    | none => exact .any _
    | some ob =>
      obtain ⟨r2, q1, q2, _⟩ := R.hp id ob ho
      rw [hl] at q1; cases q1
      by_cases hpin : id ∈ pins
      · simp only [if_pos hpin]
        exact .view _ _ _ _ _ r hone (by simp [lvC, ho, hpin, hl]) hg hp
      · simp only [if_neg hpin]
        by_cases hc : g = ob.gen ∧ (ob.body.live && kp id) = true
        · rw [if_pos hc]
          exact .view _ _ _ _ _ { r with gen := 0 } hone (by simp [lvC, ho, hpin, hl, hc.2]) (Nat.le_refl _) (fun _ => hp (hc.1.trans q2.symm))
        · rw [if_neg hc]; exact .any _
  | ptr id g row cell v r hone hl hg hp =>
    simp only [clean0]
    cases ho : h id with
    | none => exact .any _
    | some ob =>
      obtain ⟨r2, q1, q2, _⟩ := R.hp id ob ho
      rw [hl] at q1; cases q1
      by_cases hpin : id ∈ pins
      · simp only [if_pos hpin]
        exact .ptr _ _ _ _ _ r hone (by simp [lvC, ho, hpin, hl]) hg hp
      · simp only [if_neg hpin]
        by_cases hc : g = ob.gen ∧ (ob.body.live && kp id) = true
        · rw [if_pos hc]
          exact .ptr _ _ _ _ _ { r with gen := 0 } hone (by simp [lvC, ho, hpin, hl, hc.2]) (Nat.le_refl _) (fun _ => hp (hc.1.trans q2.symm))
        · rw [if_neg hc]; exact .any _
  | agg => exact .any _
  | tup => exact .any _
  | clo => exact .any _
  | any => exact .any _

theorem clean1_rep (R : Rel Γ s h a w ok lv) (pins : List Nat) (kp : Nat → Bool) {x : S} {v : Value} (hx : RepS w ok lv x v) : RepS w ok (lvC pins kp h lv) (clean1 pins kp h x) v := by
  by_cases hagg : ∃ cs, x = .agg cs
  · obtain ⟨cs, rfl⟩ := hagg
    cases hx with
    | agg _ us hl ho hh =>
      refine .agg _ us (by simpa using hl) ho (fun k y u hk hu => ?_)
      rw [List.getElem?_map] at hk
      cases hq : cs[k]? with
      | none => rw [hq] at hk; cases hk
      | some z => rw [hq] at hk; simp at hk; subst hk; exact clean0_rep R pins kp (hh k z u hq hu)
  · by_cases hclo : ∃ f cs, x = .clo f cs
    · obtain ⟨f, cs, rfl⟩ := hclo
      cases hx with
      | clo _ _ us hl hh =>
        refine .clo f _ us (by simpa using hl) (fun k y u hk hu => ?_)
        rw [List.getElem?_map] at hk
        cases hq : cs[k]? with
        | none => rw [hq] at hk; cases hk
        | some z => rw [hq] at hk; simp at hk; subst hk; exact clean0_rep R pins kp (hh k z u hq hu)
    · have : clean1 pins kp h x = clean0 pins kp h x := by cases x <;> first | rfl | exact absurd ⟨_, rfl⟩ hagg | exact absurd ⟨_, _, rfl⟩ hclo
      rw [this]; exact clean0_rep R pins kp hx

theorem clean2_rep (R : Rel Γ s h a w ok lv) (pins : List Nat) (kp : Nat → Bool) {x : S} {v : Value} (hx : RepS w ok lv x v) : RepS w ok (lvC pins kp h lv) (clean2 pins kp h x) v := by
  by_cases htup : ∃ cs, x = .tup cs
  · obtain ⟨cs, rfl⟩ := htup
    cases hx with
    | tup _ us hl hh =>
      refine .tup _ us (by simpa using hl) (fun k y u hk hu => ?_)
      rw [List.getElem?_map] at hk
      cases hq : cs[k]? with
      | none => rw [hq] at hk; cases hk
      | some z => rw [hq] at hk; simp at hk; subst hk; exact clean1_rep R pins kp (hh k z u hq hu)
  · have : clean2 pins kp h x = clean1 pins kp h x := by cases x <;> first | rfl | exact absurd ⟨_, rfl⟩ htup
    rw [this]; exact clean1_rep R pins kp hx

theorem cleanB_at (R : Rel Γ s h a w ok lv) (pins : List Nat) (kp : Nat → Bool) {r : Reg} {B : Body} (hB : BodyAt w ok lv r B) (g : Nat) : BodyAt w ok (lvC pins kp h lv) { r with gen := g } (cleanB pins kp h B) := by
  have conv : ∀ b L, InBlk w ok lv b r L → InBlk w ok (lvC pins kp h lv) b { r with gen := g } (L.map (clean0 pins kp h)) := by
    rintro b L ⟨c, e, fz, h1, h2, h3, h4, h5⟩
    refine ⟨c, e, fz, h1, h2, h3, by simpa using h4, fun k y hk => ?_⟩
    rw [List.getElem?_map] at hk
    cases hq : L[k]? with
    | none => rw [hq] at hk; cases hk
    | some z =>
      rw [hq] at hk; simp at hk; subst hk
      obtain ⟨u, a1, a2, a3⟩ := h5 k z hq
      exact ⟨u, a1, a2, clean0_rep R pins kp a3⟩
  cases B with
  | dead => trivial
  | arr sz rows =>
    obtain ⟨h1, h2, h3, h4⟩ := hB
    refine ⟨h1, h2, h3, ?_⟩
    cases hr : r.blk with
    | none => rw [hr] at h4; exact h4
    | some b =>
      rw [hr] at h4
      have := conv b _ h4
      rw [List.map_map] at this
      exact this
  | box cs =>
    obtain ⟨h1, b, h2, h3⟩ := hB
    exact ⟨by simpa using h1, b, h2, conv b cs h3⟩

theorem Rel.norm (R : Rel Γ s h a w ok lv) (pins : List Nat) (kp : Nat → Bool) (keep : List Nat) (hpin : ∀ id r, Γ.pin id = some r → id ∈ pins) :
    Rel Γ (fun t => if t ∈ keep then clean2 pins kp h (s t) else .any) (fun id => (h id).bind (normO pins kp h id)) a w ok (lvC pins kp h lv) := by
  have livB : ∀ B : Body, (cleanB pins kp h B).live = B.live := by intro B; cases B <;> rfl
  have inv : ∀ id ob, (h id).bind (normO pins kp h id) = some ob → ∃ o0, h id = some o0 ∧ ob.body = cleanB pins kp h o0.body ∧ ((id ∈ pins ∧ ob.gen = o0.gen) ∨ (id ∉ pins ∧ (o0.body.live && kp id) = true ∧ ob.gen = 0)) := by
    intro id ob hob
    cases ho : h id with
    | none => rw [ho] at hob; cases hob
    | some o0 =>
      rw [ho] at hob
      simp only [Option.bind_some, normO] at hob
      split at hob
      · rename_i hp; cases hob; exact ⟨o0, rfl, rfl, .inl ⟨hp, rfl⟩⟩
      · rename_i hp
        split at hob
        · rename_i hl; cases hob; exact ⟨o0, rfl, rfl, .inr ⟨hp, hl, rfl⟩⟩
        · cases hob
  have lvinv : ∀ id r, lvC pins kp h lv id = some r → ∃ r0, lv id = some r0 ∧ r.blk = r0.blk ∧ (id ∈ pins → r = r0) := by
    intro id r hr
    simp only [lvC] at hr
    split at hr
    · cases hr
    · split at hr
      · exact ⟨r, hr, rfl, fun _ => rfl⟩
      · rename_i hp
        split at hr
        · cases hq : lv id with
          | none => rw [hq] at hr; cases hr
          | some r0 => rw [hq] at hr; simp at hr; subst hr; exact ⟨r0, rfl, rfl, fun h => absurd h hp⟩
        · cases hr
  refine ⟨R.tm, R.df, ?_, ?_, ?_, ?_, R.okl, ?_, R.fr, R.pv, ?_, ?_, ?_⟩
  · intro t v hv
    show RepS w ok (lvC pins kp h lv) (if t ∈ keep then clean2 pins kp h (s t) else .any) v
    split
    · exact clean2_rep R pins kp (R.sl t v hv)
    · exact .any _
  · intro id ob hob
    obtain ⟨o0, h1, h2, h3⟩ := inv id ob hob
    obtain ⟨r, q1, q2, q3⟩ := R.hp id o0 h1
    rcases h3 with ⟨hp, hg⟩ | ⟨hp, hl, hg⟩
    · refine ⟨r, by simp [lvC, h1, hp, q1], q2.trans hg.symm, ?_⟩
      rw [h2]
      have := cleanB_at R pins kp q3 r.gen
      exact this
    · refine ⟨{ r with gen := 0 }, by simp [lvC, h1, hp, q1, hl], hg.symm, ?_⟩
      rw [h2]
      exact cleanB_at R pins kp q3 0
  · intro id hid
    cases ho : h id with
    | none => simp [lvC, ho]
    | some o0 =>
      simp only [ho, Option.bind_some, normO] at hid
      simp only [lvC, ho]
      split at hid
      · cases hid
      · rename_i hp
        rw [if_neg hp]
        split at hid
        · cases hid
        · rename_i hl; rw [if_neg hl]
  · intro i j oi oj ri rj b hi hj hli hlj hri hrj hbi hbj
    obtain ⟨p0, p1, p2, _⟩ := inv i oi hi
    obtain ⟨q0, q1, q2, _⟩ := inv j oj hj
    obtain ⟨r0, a1, a2, _⟩ := lvinv i ri hri
    obtain ⟨r1, b1, b2, _⟩ := lvinv j rj hrj
    exact R.inj i j p0 q0 r0 r1 b p1 q1 (by rw [← livB, ← p2]; exact hli) (by rw [← livB, ← q2]; exact hlj) a1 b1 (by rw [← a2]; exact hbi) (by rw [← b2]; exact hbj)
  · intro b id ob r hb hid hlv hr hrb
    obtain ⟨p0, p1, p2, _⟩ := inv id ob hid
    obtain ⟨r0, a1, a2, _⟩ := lvinv id r hr
    exact R.okn b id p0 r0 hb p1 (by rw [← livB, ← p2]; exact hlv) a1 (by rw [← a2]; exact hrb)
  · intro id ob r b hid hlv hr hrb
    obtain ⟨p0, p1, p2, _⟩ := inv id ob hid
    obtain ⟨r0, a1, a2, _⟩ := lvinv id r hr
    exact R.ph id p0 r0 b p1 (by rw [← livB, ← p2]; exact hlv) a1 (by rw [← a2]; exact hrb)
  · intro id r0 r hp hr hg
    obtain ⟨r1, a1, _, a3⟩ := lvinv id r hr
    have := a3 (hpin id r0 hp)
    subst this
    exact R.pn id r0 _ hp a1 hg
  · intro id r0 hp hid
    have hne := R.pl id r0 hp
    cases ho : h id with
    | none => exact hne ho
    | some o0 => simp [ho, normO, hpin id r0 hp] at hid

theorem Rel.normSt {st : St} (R : Rel Γ (get st.s) (hget st.h) a w ok lv) (pins keep : List Nat) (hpin : ∀ id r, Γ.pin id = some r → id ∈ pins) :
    Rel Γ (get (st.norm pins keep).s) (hget (st.norm pins keep).h) a w ok (lvC pins (st.kept keep) (hget st.h) lv) := by
  have := R.norm pins (st.kept keep) keep hpin
  have e1 : get (st.norm pins keep).s = fun t => if t ∈ keep then clean2 pins (st.kept keep) (hget st.h) (get st.s t) else .any := by
    funext t
    unfold St.norm
    simp only
    generalize st.kept keep = kp
    clear this
    induction keep with
    | nil => rfl
    | cons k r ih =>
      simp only [List.map_cons, get]
      by_cases e : k = t
      · subst e; simp
      · rw [if_neg e, ih]
        have : t ∈ k :: r ↔ t ∈ r := by simp [Ne.symm e]
        simp only [this]
  have e2 : hget (st.norm pins keep).h = fun id => (hget st.h id).bind (normO pins (st.kept keep) (hget st.h) id) := by
    funext id
    exact hget_normH pins (st.kept keep) (hget st.h) st.h id
  rw [e1, e2]
  exact this
end
end Go.Eng
