/-
  The engine, part F: append, copy, literals of slices, bytes and texts.
-/
import Derived.Test.YthbonnlhoaeflaaEngE
import Derived.Lib.ConvBytes
set_option linter.unusedVariables false
set_option linter.unusedSimpArgs false
namespace Go.Eng
open Go.RowKit Go.Lib
section
variable {Γ : Ctx} {s : Nat → S} {h : Nat → Option Ob} {a : Act} {w : World} {ok : Nat → Prop} {lv : Nat → Option Reg}

/-- A value whose cells can be read one behind the other. -/
def SrcOk (P : Program) (w : World) (sz : Nat) (x : Value) (n : Nat) (news : List Value) : Prop :=
  news.length = n * sz ∧ ∀ w1 : World, w1.heap = w.heap → (Builtin.lenOf x).run P w1 = .ok n w1 ∧ (Builtin.firstCells sz n x).run P w1 = .ok news.toArray w1

/-- .. and stand for rows. -/
def Stand (w : World) (ok : Nat → Prop) (ys : List (List D)) (news : List Value) : Prop :=
  ∀ (k : Nat) (d : D), ys.flatten[k]? = some d → ∃ u, news[k]? = some u ∧ u.oneCell' = true ∧ RepD w ok d u

theorem cell?_heap {w w1 : World} (hh : w1.heap = w.heap) (a : Addr) : w1.cell? a = w.cell? a := by simp [World.cell?, hh]

theorem src_slice (P : Program) {sz n b o cap : Nat} {news : List Value} (hl : news.length = n * sz) (hc : ∀ (k : Nat) (u : Value), news[k]? = some u → w.cell? ⟨b, o + k, none⟩ = some u) :
    SrcOk P w sz (.slice (some ⟨b, o, none⟩) n cap) n news := by
  refine ⟨hl, fun w1 hh => ⟨by simp [Builtin.lenOf], ?_⟩⟩
  exact run_firstCells_some (P := P) w1 sz n ⟨b, o, none⟩ n cap news hl (fun j v hj => by rw [addr_add, cell?_heap hh]; exact hc j v hj)

theorem src_sl {y : Value} {sz : Nat} {rows : List (List D)} (hx : RepD w ok (.sl sz rows) y) :
    ∃ news, SrcOk Γ.P w sz y rows.length news ∧ Stand w ok rows news ∧ ∀ r ∈ rows, r.length = sz := by
  cases hx with
  | nil => exact ⟨[], ⟨by simp, fun w1 _ => ⟨by simp [Builtin.lenOf], by simp [Builtin.firstCells]⟩⟩, fun k d hk => by simp at hk, by simp⟩
  | emp => exact ⟨[], ⟨by simp, fun w1 _ => ⟨by simp [Builtin.lenOf], by simp [Builtin.firstCells, loadCells, loadCellsFrom]⟩⟩, fun k d hk => by simp at hk, by simp⟩
  | sl _ _ b o cap us hr hc hb h1 h2 =>
    refine ⟨(List.range rows.flatten.length).map us, src_slice Γ.P (by rw [List.length_map, List.length_range, flatten_length hr]) (fun k u hk => ?_), fun k d hk => ?_, hr⟩
    · rw [List.getElem?_map] at hk
      cases hq : (List.range rows.flatten.length)[k]? with
      | none => rw [hq] at hk; cases hk
      | some q =>
        rw [hq] at hk; simp at hk; subst hk
        have hkn : k < rows.flatten.length := by have := (List.getElem?_eq_some_iff.1 hq).1; rwa [List.length_range] at this
        have e : q = k := by have := (List.getElem?_eq_some_iff.1 hq).2; rw [List.getElem_range] at this; exact this.symm
        subst e
        exact (h1 q _ (List.getElem?_eq_getElem hkn)).1
    · have hkn : k < rows.flatten.length := (List.getElem?_eq_some_iff.1 hk).1
      refine ⟨us k, ?_, (h1 k d hk).2, h2 k d hk⟩
      rw [List.getElem?_map, List.getElem?_range hkn]; rfl

theorem rowsOf_src (R : Rel Γ s h a w ok lv) {y : S} {yv : Value} {sz : Nat} {ys : List (List D)} (hy : RepS w ok lv y yv) (hr : rowsOf (att h y) = some ys) (hf : fits sz (att h y)) :
    ∃ news, SrcOk Γ.P w sz yv ys.length news ∧ Stand w ok ys news ∧ ∀ r ∈ ys, r.length = sz := by
  unfold rowsOf at hr
  split at hr
  · rename_i sz' rows _ he
    obtain ⟨rfl, _⟩ := Prod.mk.inj he
    simp at hr; subst hr
    have hf : sz' = sz := by simpa [fits, att] using hf
    subst hf
    cases hy with
    | d _ _ hx =>
      exact src_sl hx
  · rename_i sz' rows _ he
    obtain ⟨rfl, _⟩ := Prod.mk.inj he
    simp at hr; subst hr
    have hf : sz' = sz := by simpa [fits, att] using hf
    subst hf
    cases hy with
    | d _ _ hx => cases hx with
      | sn _ _ _ _ _ hx => exact src_sl hx
  · rename_i he
    obtain ⟨rfl, _⟩ := Prod.mk.inj he
    simp at hr; subst hr
    have e := hy.dv
    subst e
    exact ⟨[], ⟨by simp, fun w1 _ => ⟨by simp [Builtin.lenOf], by simp [Builtin.firstCells]⟩⟩, fun k d hk => by simp at hk, by simp⟩
  · rename_i id g off len g' sz' rows he
    obtain ⟨rfl, e2⟩ := Prod.mk.inj he
    have e2 : h id = some ⟨g', .arr sz' rows⟩ := by have e2 : [h id] = [some ⟨g', .arr sz' rows⟩] := e2; simpa using e2
    have hf : sz' = sz := by simpa [fits, att, S.refs, e2] using hf
    subst hf
    split at hr
    · rename_i hgl
      obtain ⟨hg, hle⟩ := hgl
      simp at hr; subst hr
      obtain ⟨r, q1, q2, q3, q4⟩ := R.view hy e2 hg
      obtain ⟨s1, s2, s3, s4⟩ := q3
      have hlen : ((rows.drop off).take len).length = len := by simp; omega
      have hr' : ∀ r ∈ rows.drop off, r.length = sz' := fun r hr => s3 r (List.mem_of_mem_drop hr)
      have hr2 : ∀ r ∈ (rows.drop off).take len, r.length = sz' := fun r hr => hr' r (List.mem_of_mem_take hr)
      unfold ViewAt at q4
      split at q4
      · obtain ⟨rfl, p0, rfl⟩ := q4
        exact ⟨[], ⟨by simp, fun w1 _ => ⟨by simp [Builtin.lenOf], by cases p0 <;> simp [Builtin.firstCells, loadCells, loadCellsFrom]⟩⟩, fun k d hk => by simp at hk, by simp⟩
      · rename_i b hb
        obtain ⟨cap, o, rfl, hlc, ho⟩ := q4
        rw [hb] at s4
        rw [hlen]
        have hfl : ∀ k d, ((rows.drop off).take len).flatten[k]? = some d → w.cell? ⟨b, o + k, none⟩ = some ((w.cell? ⟨b, o + k, none⟩).getD undef) ∧ ((w.cell? ⟨b, o + k, none⟩).getD undef).oneCell' = true ∧ RepS w ok lv (.d d) ((w.cell? ⟨b, o + k, none⟩).getD undef) := by
          intro k d hk
          rw [flatten_take hr', flatten_drop s3, List.getElem?_take] at hk
          split at hk
          · rename_i hlt
            rw [List.getElem?_drop] at hk
            have hpos : 0 < cap := by
              have : 0 < len := by
                rcases Nat.eq_zero_or_pos len with e | e
                · subst e; simp at hlt
                · exact e
              omega
            obtain ⟨rfl, _⟩ := ho hpos
            have := s4.cell (k := off * sz' + k) (y := .d d) (by rw [List.getElem?_map, hk]; rfl)
            have e : r.off + off * r.sz + k = r.off + (off * sz' + k) := by rw [s1]; omega
            rw [e]; exact this
          · cases hk
        have hn : ((rows.drop off).take len).flatten.length = len * sz' := by rw [flatten_length hr2, hlen]
        refine ⟨(List.range (len * sz')).map (fun k => (w.cell? ⟨b, o + k, none⟩).getD undef), src_slice Γ.P (by simp) (fun k u hk => ?_), fun k d hk => ?_, hr2⟩
        · rw [List.getElem?_map] at hk
          cases hq : (List.range (len * sz'))[k]? with
          | none => rw [hq] at hk; cases hk
          | some q =>
            rw [hq] at hk; simp at hk; subst hk
            have hkn : k < len * sz' := by have := (List.getElem?_eq_some_iff.1 hq).1; rwa [List.length_range] at this
            have e : q = k := by have := (List.getElem?_eq_some_iff.1 hq).2; rw [List.getElem_range] at this; exact this.symm
            subst e
            exact (hfl q _ (List.getElem?_eq_getElem (by rw [hn]; exact hkn))).1
        · have hkn : k < len * sz' := by rw [← hn]; exact (List.getElem?_eq_some_iff.1 hk).1
          obtain ⟨_, g2, g3⟩ := hfl k d hk
          refine ⟨_, ?_, g2, by cases g3; assumption⟩
          rw [List.getElem?_map, List.getElem?_range hkn]; rfl
    · cases hr
  · cases hr

/-- An append that makes a new row. -/
theorem run_append_new (P : Program) (w : World) {t tx ty e : TypeId} {i : TypeInfo} {z : Value} {dx : TypeDesc} (ht : P.underlying t = some (.slice e)) (htx : P.underlying tx = some dx) (hdx : (∃ e', dx = .slice e') ∨ dx = .string)
    (hi : P.info? e = some i) (hz : i.zero = some z) {base : Option Addr} {sLen sCap n : Nat} {olds news : List Value} {yv : Value}
    (ho : ∀ w1 : World, w1.heap = w.heap → (Builtin.firstCells i.size sLen (.slice base sLen sCap)).run P w1 = .ok olds.toArray w1) (hy : SrcOk P w i.size yv n news)
    (hg : sCap < sLen + n) (h63 : sLen + n ≤ 9223372036854775807) (h47 : (sLen + n) * i.bytes ≤ 140737488355328) :
    ∃ cap zs, sLen + n ≤ cap ∧ (Builtin.zeroCells z.cells (cap - (sLen + n))) = zs ∧ (Builtin.append_ #[t, tx] ty #[.slice base sLen sCap, yv]).run P w =
      .ok (.slice (some ⟨w.heap.size, 0, none⟩) (sLen + n) cap) (w.drew.alloc (.cells (olds.toArray ++ news.toArray ++ zs) e)) := by
  refine ⟨grownCap w (sLen + n) sCap e, _, grownCap_ge w _ _ e, rfl, ?_⟩
  have hn : ¬ (sLen + n ≤ sCap) := by omega
  have h63' : ¬ (9223372036854775807 < ((sLen : Int) + (n : Int))) := by omega
  have h48' : ¬ (281474976710656 < Builtin.nextslicecap (sLen + n) sCap * i.bytes) := by have := growslice_fits hg h47; omega
  obtain ⟨y1, y2⟩ := hy.2 w rfl
  obtain ⟨_, y3⟩ := hy.2 w.drew rfl
  have ho' := ho w.drew rfl
  rcases hdx with ⟨e', rfl⟩ | rfl
  · simp [Builtin.append_, run_underlying ht, run_underlying htx, sizeOf, typeInfo, zeroValue, hi, hz, y1, hn, h63', h48', Question.forced, y3, ho', newRow, grownCap]
    congr 2
    apply Array.ext'
    simp [List.append_assoc]
  · simp [Builtin.append_, run_underlying ht, run_underlying htx, sizeOf, typeInfo, zeroValue, hi, hz, y1, hn, h63', h48', Question.forced, y3, ho', newRow, grownCap]
    congr 2
    apply Array.ext'
    simp [List.append_assoc]

/-- An append for which there is room. -/
theorem run_append_here (P : Program) (w w' : World) {t tx ty e : TypeId} {i : TypeInfo} {dx : TypeDesc} (ht : P.underlying t = some (.slice e)) (htx : P.underlying tx = some dx) (hdx : (∃ e', dx = .slice e') ∨ dx = .string)
    (hi : P.info? e = some i) {base : Option Addr} {sLen sCap n : Nat} {news : List Value} {yv : Value} (hy : SrcOk P w i.size yv n news) (hg : sLen + n ≤ sCap)
    (hst : (match base with | some ad => (storeCells (ad.add (sLen * i.size)) news).run P w | none => .ok () w) = .ok () w') :
    (Builtin.append_ #[t, tx] ty #[.slice base sLen sCap, yv]).run P w = .ok (.slice base (sLen + n) sCap) w' := by
  obtain ⟨y1, y2⟩ := hy.2 w rfl
  rcases hdx with ⟨e', rfl⟩ | rfl
  · cases base with
    | none =>
      simp at hst; subst hst
      simp [Builtin.append_, run_underlying ht, run_underlying htx, sizeOf, typeInfo, hi, y1, hg, y2]
    | some ad =>
      simp only at hst
      simp [Builtin.append_, run_underlying ht, run_underlying htx, sizeOf, typeInfo, hi, y1, hg, y2, hst]
  · cases base with
    | none =>
      simp at hst; subst hst
      simp [Builtin.append_, run_underlying ht, run_underlying htx, sizeOf, typeInfo, hi, y1, hg, y2]
    | some ad =>
      simp only at hst
      simp [Builtin.append_, run_underlying ht, run_underlying htx, sizeOf, typeInfo, hi, y1, hg, y2, hst]

theorem Stand.append {ys zs : List (List D)} {a b : List Value} (h1 : Stand w ok ys a) (h2 : Stand w ok zs b) (hl : a.length = ys.flatten.length) : Stand w ok (ys ++ zs) (a ++ b) := by
  intro k d hk
  rw [List.flatten_append] at hk
  by_cases h : k < ys.flatten.length
  · rw [List.getElem?_append_left h] at hk
    obtain ⟨u, g1, g2, g3⟩ := h1 k d hk
    exact ⟨u, by rw [List.getElem?_append_left (by omega)]; exact g1, g2, g3⟩
  · rw [List.getElem?_append_right (by omega)] at hk
    obtain ⟨u, g1, g2, g3⟩ := h2 _ d hk
    exact ⟨u, by rw [List.getElem?_append_right (by omega), hl]; exact g1, g2, g3⟩

/-- An append onto what a name holds: 'x' a slice of the row 'id' (or nil: no row yet). -/
theorem app_core (R : Rel Γ s h a w ok lv) {t tx ty e : TypeId} {i : TypeInfo} {z : Value} {dx : TypeDesc} (ht : Γ.P.underlying t = some (.slice e)) (htx : Γ.P.underlying tx = some dx) (hdx : (∃ e', dx = .slice e') ∨ dx = .string)
    (hi : Γ.P.info? e = some i) (hz : i.zero = some z) (hzs : i.size = z.cells.size) (h0 : 0 < i.size) {yv : Value} {ys olds : List (List D)} {news ovs : List Value}
    (hy : SrcOk Γ.P w i.size yv ys.length news) (hys : Stand w ok ys news) (hyr : ∀ r ∈ ys, r.length = i.size)
    (id : Nat) {base : Option Addr} {sCap : Nat} (hol : ∀ r ∈ olds, r.length = i.size)
    (hos : SrcOk Γ.P w i.size (.slice base olds.length sCap) olds.length ovs) (hov : Stand w ok olds ovs)
    (hbase : (sCap = 0 ∧ olds = []) ∨ ∃ b o r ob cells, base = some ⟨b, o, none⟩ ∧ olds.length ≤ sCap ∧ h id = some ob ∧ ob.body.live = true ∧ lv id = some r ∧ r.blk = some b ∧ InBlk w ok lv b r cells ∧
      (0 < sCap → o + sCap * i.size ≤ r.tot ∧ ∀ (k : Nat) (d : D), olds.flatten[k]? = some d → r.off ≤ o ∧ cells[o - r.off + k]? = some (.d d)) ∧ r.off ≤ r.tot)
    (h63 : olds.length + ys.length ≤ 9223372036854775807) (h47 : (olds.length + ys.length) * i.bytes ≤ 140737488355328) :
    Does Γ s h a w (Builtin.append_ #[t, tx] ty #[.slice base olds.length sCap, yv]) ⟨.view id (nextGen (h id)) 0 (olds.length + ys.length), [(id, ⟨nextGen (h id), .arr i.size (olds ++ ys)⟩)]⟩ := by
  have hall : ∀ r ∈ olds ++ ys, r.length = i.size := by
    intro r hr
    rcases List.mem_append.1 hr with hr | hr
    · exact hol r hr
    · exact hyr r hr
  have hfo : olds.flatten.length = olds.length * i.size := flatten_length hol
  have hfy : ys.flatten.length = ys.length * i.size := flatten_length hyr
  by_cases hroom : olds.length + ys.length ≤ sCap
  · rcases hbase with ⟨rfl, rfl⟩ | ⟨b, o, r, ob, cells, rfl, hle, ho, hlive, hlv, hblk, hI, hpos, hoff⟩
    · -- nothing is appended to nil
      have hn : ys.length = 0 := by simpa using hroom
      have hys0 : ys = [] := List.length_eq_zero_iff.1 hn
      subst hys0
      have hnews : news = [] := List.length_eq_zero_iff.1 (by simpa using hy.1)
      subst hnews
      have hr := run_append_here Γ.P w w (ty := ty) (base := base) ht htx hdx hi hy hroom (by cases base <;> simp [storeCells])
      refine ⟨_, w, ok, up lv id (some ⟨nextGen (h id), none, 0, i.size, 0⟩), hr, ?_, ?_⟩
      · refine R.upd id ⟨nextGen (h id), .arr i.size []⟩ _ w (fun r hr => .inr (age R id r hr)) rfl rfl rfl rfl (Nat.le_refl _) (fun _ _ _ => rfl) (fun b hb => by cases hb) ⟨rfl, h0, by simp, rfl⟩
      · exact .view _ _ _ _ _ ⟨nextGen (h id), none, 0, i.size, 0⟩ rfl (up_same _ _ _) (Nat.le_refl _) (fun _ => ⟨rfl, base, rfl⟩)
    · -- in place
      have hnok : ¬ ok b := fun hb => R.okn b id ob r hb ho hlive hlv hblk
      have hbl : b < w.heap.size := hI.lt
      have hlater : ∀ (r' : Reg), r'.gen = nextGen (h id) → Later lv (up lv id (some r')) := by
        intro r' hg' j rj hj
        by_cases e : j = id
        · subst e; exact ⟨r', up_same _ _ _, .inr (by rw [hg']; exact age R j rj hj)⟩
        · exact ⟨rj, by rw [up_ne _ _ _ e]; exact hj, .inl rfl⟩
      obtain ⟨c, e', fz, i1, i2, i3, i4, i5⟩ := hI
      rcases Nat.eq_zero_or_pos sCap with hc0 | hc0
      · -- an empty one without room
        subst hc0
        have ho0 : olds = [] := List.length_eq_zero_iff.1 (by omega)
        have hy0 : ys = [] := List.length_eq_zero_iff.1 (by omega)
        subst ho0 hy0
        have hnews : news = [] := List.length_eq_zero_iff.1 (by simpa using hy.1)
        subst hnews
        have hr := run_append_here Γ.P w w (ty := ty) (base := some ⟨b, o, none⟩) ht htx hdx hi hy hroom (by simp [storeCells])
        refine ⟨_, w, ok, up lv id (some ⟨nextGen (h id), some b, 0, i.size, r.tot⟩), hr, ?_, ?_⟩
        · refine R.upd id ⟨nextGen (h id), .arr i.size []⟩ _ w (fun r hr => .inr (age R id r hr)) rfl rfl rfl rfl (Nat.le_refl _) (fun _ _ _ => rfl) (fun b' hb' _ => .inr ⟨ob, r, ho, hlive, hlv, by cases hb'; exact hblk⟩) ⟨rfl, h0, by simp, ?_⟩
          exact ⟨c, e', fz, i1, i2, i3, by simp, fun k y hk => by simp at hk⟩
        · exact .view _ _ _ _ _ ⟨nextGen (h id), some b, 0, i.size, r.tot⟩ rfl (up_same _ _ _) (Nat.le_refl _) (fun _ => ⟨0, o, rfl, by simp, fun h => by omega⟩)
      · obtain ⟨htot, hcells⟩ := hpos hc0
        have hfit : o + olds.flatten.length + ys.flatten.length ≤ c.size := by
          rw [hfo, hfy, i2, Nat.add_assoc, ← Nat.add_mul]
          have := Nat.mul_le_mul_right i.size hroom
          omega
        have h1s : ∀ (k : Nat) (v : Value), news[k]? = some v → v.oneCell' = true := by
          intro k v hk
          have hlt : k < ys.flatten.length := by rw [hfy, ← hy.1]; exact (List.getElem?_eq_some_iff.1 hk).1
          obtain ⟨u, g1, g2, _⟩ := hys k _ (List.getElem?_eq_getElem hlt)
          rw [hk] at g1; cases g1; exact g2
        have hnl : news.length = ys.flatten.length := by rw [hfy]; exact hy.1
        obtain ⟨w', c', g1, g2, g3, g4, g5, g6, g7, g8, g9, g10⟩ := store_cells Γ.P b (o + olds.length * i.size) e' fz news 0 c w i1 (by rw [hnl, ← hfo]; omega) (fun k hk => by omega) h1s
        have hr := run_append_here Γ.P w w' (ty := ty) (base := some ⟨b, o, none⟩) ht htx hdx hi hy hroom (by simp only [addr_add]; exact g1)
        have hmono : ∀ b', ok b' → w'.heap[b']? = w.heap[b']? := fun b' hb' => g6 b' (fun e => hnok (e ▸ hb'))
        refine ⟨_, w', ok, up lv id (some ⟨nextGen (h id), some b, o, i.size, r.tot⟩), hr, ?_, ?_⟩
        · refine R.upd id ⟨nextGen (h id), .arr i.size (olds ++ ys)⟩ _ w' (fun r hr => .inr (age R id r hr)) rfl g2 g3 g4 (by omega) (fun b2 hb2 hno => g6 b2 (fun e => hno ob r ho hlive hlv (by rw [e]; exact hblk))) (fun b' hb' _ => .inr ⟨ob, r, ho, hlive, hlv, by cases hb'; exact hblk⟩) ⟨rfl, h0, hall, ?_⟩
          refine ⟨c', e', fz, g7, g8.trans i2, by rw [g8]; exact i3, ?_, fun k y hk => ?_⟩
          · rw [List.length_map, List.flatten_append, List.length_append, g8]; show o + _ ≤ _; omega
          · rw [List.getElem?_map, List.flatten_append] at hk
            by_cases hlt : k < olds.flatten.length
            · rw [List.getElem?_append_left hlt] at hk
              cases hq : olds.flatten[k]? with
              | none => rw [hq] at hk; cases hk
              | some d =>
                rw [hq] at hk; simp at hk; subst hk
                obtain ⟨p1, p2⟩ := hcells k d hq
                obtain ⟨u, q1, q2, q3⟩ := i5 _ _ p2
                refine ⟨u, ?_, q2, q3.mono hmono (fun _ h => h) (hlater _ rfl)⟩
                show c'[o + k]? = some u
                rw [g10 (o + k) (by omega)]
                have e : r.off + (o - r.off + k) = o + k := by omega
                rw [e] at q1; exact q1
            · rw [List.getElem?_append_right (by omega)] at hk
              cases hq : ys.flatten[k - olds.flatten.length]? with
              | none => rw [hq] at hk; cases hk
              | some d =>
                rw [hq] at hk; simp at hk; subst hk
                obtain ⟨u, q1, q2, q3⟩ := hys _ d hq
                have hlt2 := (List.getElem?_eq_some_iff.1 q1).1
                refine ⟨u, ?_, q2, .d _ _ (q3.mono hmono (fun _ h => h))⟩
                show c'[o + k]? = some u
                rw [g9 (o + k) (by omega)]
                have e : o + k - (o + olds.length * i.size + 0) = k - olds.flatten.length := by omega
                rw [e]; exact q1
        · exact .view _ _ _ _ _ ⟨nextGen (h id), some b, o, i.size, r.tot⟩ rfl (up_same _ _ _) (Nat.le_refl _) (fun _ => ⟨sCap, o, rfl, by omega, fun _ => ⟨by simp, by simpa using htot⟩⟩)
  · -- a new row
    obtain ⟨cap, zs, hcap, hzeq, hr⟩ := run_append_new Γ.P w (ty := ty) ht htx hdx hi hz (fun w1 hh => (hos.2 w1 hh).2) hy (by omega) h63 h47
    obtain ⟨q1, q2, q3, q4, q5, q6⟩ := alloc_frame w.drew (.cells (ovs.toArray ++ (news.toArray ++ zs)) e)
    have hol' : ovs.length = olds.flatten.length := by rw [hfo]; exact hos.1
    have hnl : news.length = ys.flatten.length := by rw [hfy]; exact hy.1
    have hzl : cap * i.size ≤ (ovs.toArray ++ (news.toArray ++ zs)).size := by
      have hz1 : zs.size = (cap - (olds.length + ys.length)) * i.size := by rw [← hzeq, hzs]; simp [Builtin.zeroCells]
      have hz2 : cap * i.size = (olds.length + ys.length) * i.size + (cap - (olds.length + ys.length)) * i.size := by rw [← Nat.add_mul]; congr 1; omega
      rw [hz2, Nat.add_mul]
      simp only [Array.size_append, List.size_toArray]
      omega
    have hst := hov.append hys hol'
    have hr' : (Builtin.append_ #[t, tx] ty #[.slice base olds.length sCap, yv]).run Γ.P w = .ok (.slice (some ⟨w.heap.size, 0, none⟩) (olds.length + ys.length) cap) (w.drew.alloc (.cells (ovs.toArray ++ (news.toArray ++ zs)) e)) := by
      rw [hr, Array.append_assoc]
    refine ⟨_, _, ok, up lv id (some ⟨nextGen (h id), some w.heap.size, 0, i.size, (ovs.toArray ++ (news.toArray ++ zs)).size⟩), hr', ?_, ?_⟩
    · refine R.newBlk id (.arr i.size (olds ++ ys)) _ e (0, 0) i.size _ q1 q2 q3 q4 q5 q6 (by simp) (.inl ⟨_, rfl, h0, hall⟩) ?_ (fun k y hk => ?_)
      · simp only [Body.cells, List.length_map, List.flatten_append, List.length_append]
        have := Nat.mul_le_mul_right i.size hcap
        rw [Nat.add_mul] at this
        omega
      · simp only [Body.cells, List.getElem?_map] at hk
        cases hq : (olds ++ ys).flatten[k]? with
        | none => rw [hq] at hk; cases hk
        | some d =>
          rw [hq] at hk; simp at hk; subst hk
          obtain ⟨u, g1, g2, g3⟩ := hst k d hq
          refine ⟨u, ?_, g2, .d _ _ g3⟩
          rw [← Array.append_assoc, Array.getElem?_append_left (by have := (List.getElem?_eq_some_iff.1 g1).1; simpa using this)]
          simpa using g1
    · exact new_view _ _ _ _ _ _ _ _ hcap hzl

theorem app_does (R : Rel Γ s h a w ok lv) {t tx ty e : TypeId} {i : TypeInfo} {z : Value} {dx : TypeDesc} (ht : Γ.P.underlying t = some (.slice e)) (htx : Γ.P.underlying tx = some dx) (hdx : (∃ e', dx = .slice e') ∨ dx = .string)
    (hi : Γ.P.info? e = some i) (hz : i.zero = some z) (hzs : i.size = z.cells.size) (h0 : 0 < i.size) {xv yv : Value} {x : S} {ys : List (List D)} {news : List Value}
    (hx : RepS w ok lv x xv) (hy : SrcOk Γ.P w i.size yv ys.length news) (hys : Stand w ok ys news) (hyr : ∀ r ∈ ys, r.length = i.size)
    (d : Nat) {u : U} (hW : appW d (nextGen (h d)) i.size i.bytes (att h x) (some ys) (· = u)) : Does Γ s h a w (Builtin.append_ #[t, tx] ty #[xv, yv]) u := by
  simp only [appW] at hW
  split at hW
  · rename_i he
    obtain ⟨rfl, _⟩ := Prod.mk.inj he
    obtain ⟨p1, p2, rfl⟩ := hW
    have ev := hx.dv
    subst ev
    have := app_core R (ty := ty) ht htx hdx hi hz hzs h0 hy hys hyr d (base := none) (sCap := 0) (olds := []) (ovs := []) (by simp) ⟨by simp, fun w1 _ => ⟨by simp [Builtin.lenOf], by simp [Builtin.firstCells]⟩⟩
      (fun k d hk => by simp at hk) (.inl ⟨rfl, rfl⟩) (by simpa using p2) (by simpa using p1)
    simpa using this
  · rename_i id g off len g' sz' rows he
    obtain ⟨rfl, e2⟩ := Prod.mk.inj he
    have e2 : h id = some ⟨g', .arr sz' rows⟩ := by have e2 : [h id] = [some ⟨g', .arr sz' rows⟩] := e2; simpa using e2
    obtain ⟨hg, hsz, hle, p1, p2, rfl⟩ := hW
    have hlen : ((rows.drop off).take len).length = len := by simp; omega
    have hro : rowsOf (att h (.view id g off len)) = some ((rows.drop off).take len) := by simp [rowsOf, att, S.refs, e2, hg, hle]
    obtain ⟨ovs, o1, o2, o3⟩ := rowsOf_src (sz := i.size) R hx hro (by simp [fits, att, S.refs, e2, hsz])
    obtain ⟨r, q1, q2, q3, q4⟩ := R.view hx e2 hg
    obtain ⟨s1, s2, s3, s4⟩ := q3
    have hgen : nextGen (h id) = g' + 1 := by rw [e2]; rfl
    have key : ∀ base sCap, xv = .slice base len sCap → ((sCap = 0 ∧ (rows.drop off).take len = []) ∨ ∃ b o r ob cells, base = some ⟨b, o, none⟩ ∧ ((rows.drop off).take len).length ≤ sCap ∧ h id = some ob ∧ ob.body.live = true ∧ lv id = some r ∧ r.blk = some b ∧ InBlk w ok lv b r cells ∧
      (0 < sCap → o + sCap * i.size ≤ r.tot ∧ ∀ (k : Nat) (d : D), ((rows.drop off).take len).flatten[k]? = some d → r.off ≤ o ∧ cells[o - r.off + k]? = some (.d d)) ∧ r.off ≤ r.tot) →
        Does Γ s h a w (Builtin.append_ #[t, tx] ty #[xv, yv]) ⟨.view id (g' + 1) 0 (len + ys.length), [(id, ⟨g' + 1, .arr i.size ((rows.drop off).take len ++ ys)⟩)]⟩ := by
      intro base sCap ev hbase
      subst ev
      have := app_core R (ty := ty) ht htx hdx hi hz hzs h0 hy hys hyr id (base := base) (sCap := sCap) (olds := (rows.drop off).take len) (ovs := ovs) o3 (by rw [hlen] at o1 ⊢; exact o1) o2 hbase
        (by rw [hlen]; exact p2) (by rw [hlen]; exact p1)
      rw [hlen, hgen] at this
      exact this
    unfold ViewAt at q4
    split at q4
    · obtain ⟨rfl, p0, rfl⟩ := q4
      exact key p0 0 rfl (.inl ⟨rfl, by simp⟩)
    · rename_i b hb
      obtain ⟨cap, o, rfl, hlc, ho⟩ := q4
      rw [hb] at s4
      refine key _ cap rfl (.inr ⟨b, o, r, _, _, rfl, by omega, e2, rfl, q1, hb, s4, fun hpos => ?_, ?_⟩)
      · obtain ⟨rfl, ht'⟩ := ho hpos
        refine ⟨by rw [s1, hsz] at ht' ⊢; rw [Nat.add_mul] at ht'; omega, fun k d hk => ⟨by omega, ?_⟩⟩
        have e : r.off + off * r.sz - r.off + k = off * sz' + k := by rw [s1]; omega
        rw [e, List.getElem?_map]
        rw [flatten_take (fun r hr => s3 r (List.mem_of_mem_drop hr)), flatten_drop s3, List.getElem?_take] at hk
        split at hk
        · rw [List.getElem?_drop] at hk; rw [hk]; rfl
        · cases hk
      · obtain ⟨c, e', fz, i1, i2, i3, i4, i5⟩ := s4
        omega
  · exact hW.elim

theorem bytes_get (st : ByteArray) (k : Nat) : ((st.toList.map fun c => Value.int .u8 (c.toNat : Int)) : List Value)[k]? = (st.data.toList[k]?).map fun c => Value.int .u8 (c.toNat : Int) := by
  rw [List.getElem?_map, ByteArray.toList_eq]

theorem bytesD_flat (st : ByteArray) : (bytesD st).flatten = st.toList.map fun c => D.v (.int .u8 (c.toNat : Int)) := by
  unfold bytesD
  induction st.toList with
  | nil => rfl
  | cons c l ih => simp [ih]

theorem appStr_src (P : Program) (w : World) (st : ByteArray) : SrcOk P w 1 (.string st) (bytesD st).length (st.toList.map fun c => .int .u8 c.toNat) := by
  have hl : (bytesD st).length = st.size := by simp [bytesD, ByteArray.toList_eq]
  refine ⟨by simp [bytesD], fun w1 _ => ⟨by rw [hl]; simp [Builtin.lenOf], ?_⟩⟩
  rw [hl]
  simp only [Builtin.firstCells, Sem.run_pure]
  congr 1
  rw [ByteArray.toList_eq]
  apply Array.ext'
  simp

theorem bytes_stand (w : World) (ok : Nat → Prop) (st : ByteArray) : Stand w ok (bytesD st) (st.toList.map fun c => .int .u8 c.toNat) := by
  intro k d hk
  rw [bytesD_flat, List.getElem?_map] at hk
  cases hq : st.toList[k]? with
  | none => rw [hq] at hk; cases hk
  | some c =>
    rw [hq] at hk; simp at hk; subst hk
    exact ⟨.int .u8 c.toNat, by rw [List.getElem?_map, hq]; rfl, rfl, .v _⟩

theorem toBytes_does (R : Rel Γ s h a w ok lv) {src dst e : TypeId} {u0 : TypeDesc} (hs : Γ.P.underlying src = some u0) (hd : Γ.P.underlying dst = some (.slice e)) (he : Γ.P.underlying e = some (.int .u8))
    {xv : Value} {st : ByteArray} (hx : RepS w ok lv (.d (.v (.string st))) xv) (d : Nat) :
    Does Γ s h a w (Go.convert src dst xv) ⟨.view d (nextGen (h d)) 0 st.size, [(d, ⟨nextGen (h d), .arr 1 (bytesD st)⟩)]⟩ := by
  have ev := hx.dv
  subst ev
  have hr := run_convert_string_bytes (P := Γ.P) w src dst e st hs hd he
  have hsz : (bytesCells w e st).size = grownCap w st.size 0 e := by
    have := grownCap_ge w st.size 0 e
    simp [bytesCells]; omega
  have hge := grownCap_ge w st.size 0 e
  refine ⟨_, _, ok, up lv d (some ⟨nextGen (h d), some w.heap.size, 0, 1, (bytesCells w e st).size⟩), hr, ?_, ?_⟩
  · refine R.newBlk d (.arr 1 (bytesD st)) (bytesCells w e st) e _ 1 _ rfl rfl rfl (by rw [bytesWorld_size]; omega) (fun k hk => bytesWorld_at_old w e st k hk) (bytesWorld_at_new w e st) (by simp)
      (.inl ⟨_, rfl, by omega, by simp [bytesD]⟩) ?_ (fun k y hk => ?_)
    · simp only [Body.cells, List.length_map, bytesD_flat, ByteArray.toList_eq]
      rw [hsz]; simpa using hge
    · simp only [Body.cells, List.getElem?_map, bytesD_flat, ByteArray.toList_eq] at hk
      cases hq : st.data.toList[k]? with
      | none => rw [hq] at hk; cases hk
      | some c =>
        rw [hq] at hk; simp at hk; subst hk
        refine ⟨.int .u8 c.toNat, ?_, rfl, .d _ _ (.v _)⟩
        have hlt : k < st.size := by have := (List.getElem?_eq_some_iff.1 hq).1; simpa using this
        have hq' : st.data[k]? = some c := by simpa using hq
        simp only [bytesCells]
        rw [Array.getElem?_append_left (by simpa using hlt), Array.getElem?_map, hq']; rfl
  · exact new_view _ _ _ _ _ _ _ _ hge (by rw [hsz]; omega)

theorem foldl_push (l : List Int) (b : ByteArray) : (l.foldl (fun r n => r.push (UInt8.ofNat n.toNat)) b).data.toList = b.data.toList ++ l.map fun n => UInt8.ofNat n.toNat := by
  induction l generalizing b with
  | nil => simp
  | cons n l ih =>
    rw [List.foldl_cons, ih]
    simp [ByteArray.push]

theorem toStr_does (R : Rel Γ s h a w ok lv) {src dst e : TypeId} (hs : Γ.P.underlying src = some (.slice e)) (hd : Γ.P.underlying dst = some .string) (he : Γ.P.underlying e = some (.int .u8))
    {xv : Value} {x : S} (hx : RepS w ok lv x xv) {u : U} (hW : toStrW (att h x) (· = u)) : Does Γ s h a w (Go.convert src dst xv) u := by
  unfold toStrW at hW
  split at hW
  · rename_i rows hr
    obtain ⟨hf, hb, rfl⟩ := hW
    obtain ⟨news, h1, h2, h3⟩ := rowsOf_src R hx hr hf
    -- the numbers
    have hnums : ∃ ns : List Int, news = ns.map (Value.int .u8) ∧ ns.map (fun n => UInt8.ofNat n.toNat) = rows.map byteOfRow := by
      have hlen : news.length = rows.length := by have := h1.1; omega
      have : ∀ (rows : List (List D)) (news : List Value), news.length = rows.length → (∀ r ∈ rows, IsByte r) → Stand w ok rows news → ∃ ns : List Int, news = ns.map (Value.int .u8) ∧ ns.map (fun n => UInt8.ofNat n.toNat) = rows.map byteOfRow := by
        intro rows
        induction rows with
        | nil => intro news hl _ _; exact ⟨[], by simpa using hl, rfl⟩
        | cons r rows ih =>
          intro news hl hb hst
          cases news with
          | nil => simp at hl
          | cons u news =>
            obtain ⟨n, rfl⟩ := hb r (by simp)
            obtain ⟨u', g1, _, g3⟩ := hst 0 (.v (.int .u8 n)) rfl
            simp at g1; subst g1
            cases g3
            obtain ⟨ns, e1, e2⟩ := ih news (by simpa using hl) (fun r hr => hb r (by simp [hr])) (fun k d hk => by
              obtain ⟨u, g1, g2, g3⟩ := hst (k + 1) d (by simpa using hk)
              exact ⟨u, by simpa using g1, g2, g3⟩)
            exact ⟨n :: ns, by rw [e1]; rfl, by simp [e2, byteOfRow]⟩
      exact this rows news hlen hb h2
    obtain ⟨ns, e1, e2⟩ := hnums
    have hstr : (⟨(rows.map byteOfRow).toArray⟩ : ByteArray) = ns.foldl (fun r n => r.push (UInt8.ofNat n.toNat)) ByteArray.empty := by
      have := foldl_push ns ByteArray.empty
      rw [e2] at this
      generalize ns.foldl (fun r n => r.push (UInt8.ofNat n.toNat)) ByteArray.empty = q at this ⊢
      obtain ⟨⟨l⟩⟩ := q
      simp at this
      rw [this]
    have hconv : (Go.convert src dst xv).run Γ.P w = (Conv.bytesToString xv).run Γ.P w ∧ ∃ p l c, xv = .slice p l c := by
      have : ∃ p l c, xv = .slice p l c := by
        obtain ⟨q, _⟩ := h1.2 w rfl
        by_cases hst : ∃ st, xv = .string st
        · obtain ⟨st, rfl⟩ := hst
          exfalso
          unfold rowsOf at hr
          split at hr
          · rename_i he; obtain ⟨rfl, _⟩ := Prod.mk.inj he; cases hx with | d _ _ hx => cases hx
          · rename_i he; obtain ⟨rfl, _⟩ := Prod.mk.inj he; cases hx with | d _ _ hx => cases hx
          · rename_i he; obtain ⟨rfl, _⟩ := Prod.mk.inj he; have := hx.dv; cases this
          · rename_i id g off len g' sz' rows' he
            obtain ⟨rfl, e2⟩ := Prod.mk.inj he
            split at hr
            · rename_i hgl
              obtain ⟨r, q1, q2, q3, q4⟩ := R.view hx (ob := ⟨g', .arr sz' rows'⟩) (by have e2 : [h id] = [some ⟨g', .arr sz' rows'⟩] := e2; simpa using e2) hgl.1
              unfold ViewAt at q4
              split at q4
              · obtain ⟨_, _, q5⟩ := q4; cases q5
              · obtain ⟨_, _, q5, _⟩ := q4; cases q5
            · cases hr
          · cases hr
        · cases xv <;> first | exact ⟨_, _, _, rfl⟩ | exact absurd ⟨_, rfl⟩ hst | (simp [Builtin.lenOf] at q; done)
      obtain ⟨p, l, c, rfl⟩ := this
      exact ⟨by cases p <;> simp [Go.convert, run_underlying hs, run_underlying hd, run_underlying he], p, l, c, rfl⟩
    obtain ⟨hcv, p, l, c, rfl⟩ := hconv
    obtain ⟨q1, q2⟩ := h1.2 w rfl
    refine Does.pure R (v := .string (strD rows)) ?_ (.d _ _ (.v _))
    rw [hcv]
    simp [Builtin.lenOf] at q1
    subst q1
    cases p with
    | none =>
      have hn : news = [] := by
        have : (Result.ok (#[] : Array Value) w) = .ok news.toArray w := q2
        injection this with h1 _
        simpa using h1.symm
      have : ns = [] := List.map_eq_nil_iff.1 (e1.symm.trans hn)
      subst this
      rw [strD, hstr]
      simp [Conv.bytesToString]
    | some ad =>
      simp only [Builtin.firstCells, Nat.mul_one] at q2
      rw [run_bytesToString w ad _ c ns (by rw [q2, e1])]
      rw [strD, hstr]
  · exact hW.elim
end
end Go.Eng
