/-
  The engine, part M: a statement's operations in whatever order come to what they come to in the text's order.
-/
import Derived.Test.YthbonnlhoaeflaaEngL
set_option linter.unusedVariables false
set_option linter.unusedSimpArgs false
namespace Go.Eng
open Go.RowKit Go.Lib

/-- A run in the text's order, and who touches what. -/
structure Run (P : Program) (ops : Array Oper) (lis : List LI) (us : List U) (T : Nat → List Nat) (s0 : Nat → S) (h0 : Nat → Option Ob) : Prop where
  len : us.length = lis.length
  loc : ∀ (j : Nat) (li : LI) (u : U), lis[j]? = some li → us[j]? = some u → Loc P li (sel (fun k => decide (k < j)) 0 (lis.zip us) s0) (selH (fun k => decide (k < j)) 0 (lis.zip us) h0) u (T j)
  wr : ∀ (j : Nat) (u : U), us[j]? = some u → ∀ id ∈ u.wr.map (·.1), id ∈ T j

/-- Nobody touches what another writes, unless one comes ahead of the other. -/
def Race (ops : Array Oper) (us : List U) (T : Nat → List Nat) : Prop :=
  ∀ (i j : Nat) (p q : U), i < j → us[i]? = some p → us[j]? = some q → bf ops i j = false → (∀ id ∈ p.wr.map (·.1), id ∉ T j) ∧ (∀ id ∈ q.wr.map (·.1), id ∉ T i)

section
variable {Γ : Ctx} {ops : Array Oper} {lis : List LI} {us : List U} {T : Nat → List Nat} {s0 : Nat → S} {h0 : Nat → Option Ob}

theorem zip_get {j : Nat} {p : LI × U} (h : (lis.zip us)[j]? = some p) : lis[j]? = some p.1 ∧ us[j]? = some p.2 := by
  rw [List.getElem?_zip_eq_some] at h
  exact h

theorem zip_mk {j : Nat} {li : LI} {u : U} (h1 : lis[j]? = some li) (h2 : us[j]? = some u) : (lis.zip us)[j]? = some (li, u) := by
  rw [List.getElem?_zip_eq_some]
  exact ⟨h1, h2⟩

/-- At the time when an operation may come up, all that it looks at is as in the text's order. -/
theorem agree (plan : Plan Γ.P Γ.N ops lis) (run : Run Γ.P ops lis us T s0 h0) (race : Race ops us T) {L : Nat → Bool} (hc : Closed ops L) {j : Nat} {li : LI} {u : U} (hj : lis[j]? = some li) (hu : us[j]? = some u) (hun : L j = false)
    (hpre : ∀ (o : Oper), ops[j]? = some o → ∀ e ∈ o.after, Region.binds .any e = true → L e.on = true) : StepR Γ.P li (sel L 0 (lis.zip us) s0) (selH L 0 (lis.zip us) h0) u := by
  have hbL : ∀ i, bf ops i j = true → L i = true := by
    intro i hi
    obtain ⟨o, e, h1, h2, h3, h4⟩ := before_spec ops plan.dir i j hi
    have := hpre o h1 e h2 h3
    rcases h4 with h4 | h4
    · rw [← h4]; exact this
    · exact closed_bf plan.dir hc i e.on h4 this
  have hno : ∀ i, bf ops j i = true → L i = false := by
    intro i hi
    cases hL : L i with
    | false => rfl
    | true => rw [closed_bf plan.dir hc j i hi hL] at hun; cases hun
  refine run.loc j li u hj hu _ _ (fun t ht => ?_) (fun id hid => ?_)
  · refine sel_same _ 0 _ _ _ _ rfl (fun i p hp hd => ?_)
    obtain ⟨hp1, hp2⟩ := zip_get hp
    simp only [Nat.zero_add]
    by_cases e : i = j
    · subst e; simp [hun]
    · rcases plan.slots i j p.1 li e hp1 hj t hd (.inl ht) with hb | hb
      · have := bf_lt plan.dir i j hb; simp [hbL i hb, this]
      · have := bf_lt plan.dir j i hb; simp [hno i hb]; omega
  · refine selH_same _ 0 _ _ _ _ rfl (fun i p hp hd => ?_)
    obtain ⟨hp1, hp2⟩ := zip_get hp
    simp only [Nat.zero_add]
    by_cases e : i = j
    · subst e; simp [hun]
    · rcases Nat.lt_or_gt_of_ne e with hlt | hlt
      · cases hb : bf ops i j with
        | true => simp [hbL i hb, hlt]
        | false => exact absurd hid ((race i j p.2 u hlt hp2 hu hb).1 id hd)
      · cases hb : bf ops j i with
        | true => simp [hno i hb]; omega
        | false => exact absurd hid ((race j i u p.2 hlt hu hp2 hb).2 id hd)

/-- .. and when it has come up, the state is that of one more. -/
theorem passes (plan : Plan Γ.P Γ.N ops lis) (run : Run Γ.P ops lis us T s0 h0) (race : Race ops us T) {L : Nat → Bool} (hc : Closed ops L) {j : Nat} {li : LI} {u : U} (hj : lis[j]? = some li) (hu : us[j]? = some u) (hun : L j = false)
    {L' : Nat → Bool} (hL' : ∀ k, L' k = (L k || decide (k = j))) :
    upO (sel L 0 (lis.zip us) s0) li.dst u.val = sel L' 0 (lis.zip us) s0 ∧ hwr (selH L 0 (lis.zip us) h0) u.wr = selH L' 0 (lis.zip us) h0 := by
  have hno : ∀ i, bf ops j i = true → L i = false := by
    intro i hi
    cases hL : L i with
    | false => rfl
    | true => rw [closed_bf plan.dir hc j i hi hL] at hun; cases hun
  have hz := zip_mk hj hu
  constructor
  · funext t
    by_cases hd : li.dst = some t
    · rw [sel_last (lis.zip us) 0 j L' s0 (li, u) hz hd (by simp [hL']) (fun i q hi hq hqd => ?_)]
      · rw [hd]; simp [upO]
      · obtain ⟨hq1, hq2⟩ := zip_get hq
        simp only [Nat.zero_add]
        rw [hL']
        have hne : i ≠ j := by omega
        have : L i = false := by
          rcases plan.slots i j q.1 li hne hq1 hj t hqd (.inr hd) with hb | hb
          · have := bf_lt plan.dir i j hb; omega
          · exact hno i hb
        simp [this, hne]
    · rw [upO_ne hd]
      refine sel_same _ 0 _ _ _ _ rfl (fun i p hp hpd => ?_)
      obtain ⟨hp1, hp2⟩ := zip_get hp
      simp only [Nat.zero_add]
      rw [hL']
      have hne : i ≠ j := by
        intro e; subst e
        rw [hj] at hp1; cases hp1
        exact hd hpd
      simp [hne]
  · funext id
    by_cases hd : id ∈ u.wr.map (·.1)
    · rw [selH_last (lis.zip us) 0 j L' h0 (selH L 0 (lis.zip us) h0) (li, u) hz hd (by simp [hL']) (fun i q hi hq hqd => ?_)]
      obtain ⟨hq1, hq2⟩ := zip_get hq
      simp only [Nat.zero_add]
      rw [hL']
      have hne : i ≠ j := by omega
      have : L i = false := by
        cases hb : bf ops j i with
        | true => exact hno i hb
        | false => exact absurd (run.wr i q.2 hq2 id hqd) ((race j i u q.2 hi hu hq2 hb).1 id hd)
      simp [this, hne]
    · rw [hwr_ne _ _ hd]
      refine selH_same _ 0 _ _ _ _ rfl (fun i p hp hpd => ?_)
      obtain ⟨hp1, hp2⟩ := zip_get hp
      simp only [Nat.zero_add]
      rw [hL']
      have hne : i ≠ j := by
        intro e; subst e
        rw [hu] at hp2; cases hp2
        exact hd hpd
      simp [hne]

theorem sel_all {l : List (LI × U)} {L : Nat → Bool} {s : Nat → S} (h : ∀ k, k < l.length → L k = true) : sel L 0 l s = sel (fun _ => true) 0 l s := by
  funext t
  exact sel_same l 0 _ _ s s rfl (fun j p hp _ => by simp only [Nat.zero_add]; exact h j (List.getElem?_eq_some_iff.1 hp).1)
theorem selH_all {l : List (LI × U)} {L : Nat → Bool} {h : Nat → Option Ob} (hl : ∀ k, k < l.length → L k = true) : selH L 0 l h = selH (fun _ => true) 0 l h := by
  funext t
  exact selH_same l 0 _ _ h h rfl (fun j p hp _ => by simp only [Nat.zero_add]; exact hl j (List.getElem?_eq_some_iff.1 hp).1)

def left (n : Nat) (listed : Array Bool) : Nat := (List.range n).countP fun k => !listed.getD k false

theorem left_zero {n : Nat} {listed : Array Bool} (h : left n listed = 0) : ∀ k, k < n → listed.getD k false = true := by
  intro k hk
  unfold left at h
  rw [List.countP_eq_zero] at h
  have := h k (List.mem_range.2 hk)
  simpa using this

theorem left_set {n : Nat} {listed : Array Bool} {j : Nat} (hj : j < n) (hs : listed.size = n) (hun : listed.getD j false = false) : left n (listed.setIfInBounds j true) < left n listed := by
  unfold left
  have h1 : ∀ (l : List Nat), l.Nodup → (l.countP fun k => !(listed.setIfInBounds j true).getD k false) + (if j ∈ l then 1 else 0) = l.countP fun k => !listed.getD k false := by
    intro l
    induction l with
    | nil => intro _; rfl
    | cons k l ih =>
      intro hnd
      obtain ⟨hk, hnd⟩ := List.nodup_cons.1 hnd
      have := ih hnd
      by_cases e : k = j
      · subst e
        have e1 : (listed.setIfInBounds k true).getD k false = true := by simp [hs, hj]
        rw [List.countP_cons_of_neg (by simp [hs, hj]), List.countP_cons_of_pos (by simpa using hun)]
        rw [if_neg hk, Nat.add_zero] at this
        rw [if_pos List.mem_cons_self, this]
      · have e1 : (listed.setIfInBounds j true).getD k false = listed.getD k false := getD_set_ne false (Ne.symm e)
        by_cases hq : listed.getD k false = true
        · rw [List.countP_cons_of_neg (by rw [e1, hq]; simp), List.countP_cons_of_neg (by rw [hq]; simp)]
          have e2 : (j ∈ k :: l) ↔ j ∈ l := by simp [Ne.symm e]
          simp only [e2]; exact this
        · have hq' : listed.getD k false = false := by simpa using hq
          rw [List.countP_cons_of_pos (by rw [e1, hq']; simp), List.countP_cons_of_pos (by rw [hq']; simp)]
          have e2 : (j ∈ k :: l) ↔ j ∈ l := by simp [Ne.symm e]
          simp only [e2]; omega
  have := h1 (List.range n) List.nodup_range
  rw [if_pos (List.mem_range.2 hj)] at this
  omega

theorem sched (plan : Plan Γ.P Γ.N ops lis) (run : Run Γ.P ops lis us T s0 h0) (race : Race ops us T) {Q : Exit → Act → World → Prop}
    (hQ : ∀ a w ok lv, Rel Γ (sel (fun _ => true) 0 (lis.zip us) s0) (selH (fun _ => true) 0 (lis.zip us) h0) a w ok lv → Q .normal a w) :
    ∀ (fuel : Nat) (listed : Array Bool) (a : Act) (w : World), listed.size = ops.size → Closed ops (fun k => listed.getD k false) → left ops.size listed ≤ fuel →
      (∃ ok lv, Rel Γ (sel (fun k => listed.getD k false) 0 (lis.zip us) s0) (selH (fun k => listed.getD k false) 0 (lis.zip us) h0) a w ok lv) → wpAny Γ.P .any ops Q fuel listed a w := by
  have hzl : (lis.zip us).length = ops.size := by rw [List.length_zip, run.len, plan.len]; simp
  have fin : ∀ (listed : Array Bool) (a : Act) (w : World), (∀ k, k < ops.size → listed.getD k false = true) →
      (∃ ok lv, Rel Γ (sel (fun k => listed.getD k false) 0 (lis.zip us) s0) (selH (fun k => listed.getD k false) 0 (lis.zip us) h0) a w ok lv) → Q .normal a w := by
    rintro listed a w hall ⟨ok, lv, R⟩
    rw [sel_all (fun k hk => hall k (by omega)), selH_all (fun k hk => hall k (by omega))] at R
    exact hQ a w ok lv R
  have ready_nil : ∀ (listed : Array Bool), listed.size = ops.size → Region.ready .any ops listed = [] → ∀ k, k < ops.size → listed.getD k false = true := by
    intro listed hs hr k
    induction k using Nat.strongRecOn with
    | _ k ih =>
      intro hk
      cases hL : listed.getD k false with
      | true => rfl
      | false =>
        exfalso
        have : k ∈ Region.ready .any ops listed := by
          rw [mem_ready]
          have hks : k < listed.size := by omega
          refine ⟨?_, ops[k], by simp [hk], fun e he hb => ?_⟩
          · simp [hks] at hL ⊢; exact hL
          · have hlt := plan.dir k ops[k] (by simp [hk]) e he hb
            exact ih e.on hlt (by omega)
        rw [hr] at this
        cases this
  intro fuel
  induction fuel with
  | zero =>
    intro listed a w hs hc hl hR
    have hall := left_zero (Nat.le_zero.1 hl)
    refine ⟨?_, fin listed a w hall hR⟩
    rw [List.eq_nil_iff_forall_not_mem]
    intro j hj
    obtain ⟨h1, o, h2, _⟩ := mem_ready.1 hj
    have hlt : j < ops.size := (Array.getElem?_eq_some_iff.1 h2).1
    have := hall j hlt
    have hjs : j < listed.size := by omega
    simp [hjs] at h1 this
    rw [h1] at this; cases this
  | succ fuel ih =>
    intro listed a w hs hc hl hR
    refine ⟨fun hr => fin listed a w (ready_nil listed hs hr) hR, fun j hj => ?_⟩
    obtain ⟨h1, o, h2, h3⟩ := mem_ready.1 hj
    have hlt : j < ops.size := (Array.getElem?_eq_some_iff.1 h2).1
    have hjs : j < listed.size := by omega
    have hun : listed.getD j false = false := by simp [hjs] at h1 ⊢; exact h1
    have hjl : j < lis.length := by rw [plan.len]; exact hlt
    have hju : j < us.length := by rw [run.len]; exact hjl
    have e1 := List.getElem?_eq_getElem hjl
    have e2 := List.getElem?_eq_getElem hju
    obtain ⟨ok, lv, R⟩ := hR
    have hstep := agree plan run race hc e1 e2 hun (fun o' ho' e he hb => by rw [h2] at ho'; cases ho'; exact h3 e he hb)
    refine step_ok R h2 (plan.tr j o _ h2 e1) hstep (fun a' w' ok' lv' R' => ?_)
    have hL' : ∀ k, (listed.setIfInBounds j true).getD k false = (listed.getD k false || decide (k = j)) := by
      intro k
      by_cases e : k = j
      · subst e; simp [hjs]
      · rw [getD_set_ne false (Ne.symm e)]; simp [e]
    obtain ⟨p1, p2⟩ := passes plan run race hc e1 e2 hun hL'
    rw [p1, p2] at R'
    refine ih (listed.setIfInBounds j true) a' w' (by simpa using hs) ?_ (by have := left_set hlt hs hun; omega) ⟨ok', lv', R'⟩
    intro k o' ho' hk e he hb
    simp only [hL'] at hk ⊢
    by_cases ek : k = j
    · subst ek
      rw [h2] at ho'; cases ho'
      simp [h3 e he hb]
    · simp [ek] at hk
      have := hc k o' ho' (by simpa using hk) e he hb
      simp only at this
      simp [this]

/-- In the text's order. -/
theorem inorder (plan : Plan Γ.P Γ.N ops lis) (run : Run Γ.P ops lis us T s0 h0) {Q : Exit → Act → World → Prop}
    (hQ : ∀ a w ok lv, Rel Γ (sel (fun _ => true) 0 (lis.zip us) s0) (selH (fun _ => true) 0 (lis.zip us) h0) a w ok lv → Q .normal a w) :
    ∀ (m j : Nat) (a : Act) (w : World), j + m = ops.size → (∃ ok lv, Rel Γ (sel (fun k => decide (k < j)) 0 (lis.zip us) s0) (selH (fun k => decide (k < j)) 0 (lis.zip us) h0) a w ok lv) → wpOps Γ.P ops Q (List.range' j m) a w := by
  have hzl : (lis.zip us).length = ops.size := by rw [List.length_zip, run.len, plan.len]; simp
  intro m
  induction m with
  | zero =>
    rintro j a w hj ⟨ok, lv, R⟩
    have : j = ops.size := by omega
    subst this
    rw [sel_all (fun k hk => by simp; omega), selH_all (fun k hk => by simp; omega)] at R
    exact hQ a w ok lv R
  | succ m ih =>
    rintro j a w hj ⟨ok, lv, R⟩
    rw [List.range'_succ, wpOps_cons]
    have hlt : j < ops.size := by omega
    have hjl : j < lis.length := by rw [plan.len]; exact hlt
    have hju : j < us.length := by rw [run.len]; exact hjl
    have e1 := List.getElem?_eq_getElem hjl
    have e2 := List.getElem?_eq_getElem hju
    have hstep := run.loc j _ _ e1 e2 _ _ (fun _ _ => rfl) (fun _ _ => rfl)
    have e0 : ops[j]? = some ops[j] := Array.getElem?_eq_getElem hlt
    refine step_ok R e0 (plan.tr j _ _ e0 e1) hstep (fun a' w' ok' lv' R' => ?_)
    refine ih (j + 1) a' w' (by omega) ⟨ok', lv', ?_⟩
    have p1 : upO (sel (fun k => decide (k < j)) 0 (lis.zip us) s0) lis[j].dst us[j].val = sel (fun k => decide (k < j + 1)) 0 (lis.zip us) s0 := by
      funext t
      by_cases hd : lis[j].dst = some t
      · rw [sel_last (lis.zip us) 0 j _ s0 (lis[j], us[j]) (zip_mk e1 e2) hd (by simp) (fun i q hi hq hqd => by simp; omega), hd]
        simp [upO]
      · rw [upO_ne hd]
        refine sel_same _ 0 _ _ _ _ rfl (fun i p hp hpd => ?_)
        obtain ⟨hp1, _⟩ := zip_get hp
        have hne : i ≠ j := by intro e; subst e; rw [e1] at hp1; have := Option.some.inj hp1; exact hd (by rw [this]; exact hpd)
        simp only [Nat.zero_add]
        rw [decide_eq_decide]; omega
    have p2 : hwr (selH (fun k => decide (k < j)) 0 (lis.zip us) h0) us[j].wr = selH (fun k => decide (k < j + 1)) 0 (lis.zip us) h0 := by
      funext id
      by_cases hd : id ∈ us[j].wr.map (·.1)
      · rw [selH_last (lis.zip us) 0 j _ h0 (selH (fun k => decide (k < j)) 0 (lis.zip us) h0) (lis[j], us[j]) (zip_mk e1 e2) hd (by simp) (fun i q hi hq hqd => by simp; omega)]
      · rw [hwr_ne _ _ hd]
        refine selH_same _ 0 _ _ _ _ rfl (fun i p hp hpd => ?_)
        obtain ⟨_, hp2⟩ := zip_get hp
        have hne : i ≠ j := by intro e; subst e; rw [e2] at hp2; have := Option.some.inj hp2; exact hd (by rw [this]; exact hpd)
        simp only [Nat.zero_add]
        rw [decide_eq_decide]; omega
    rw [p1, p2] at R'
    exact R'

/-- **A statement**: what its operations come to in the text's order, they come to. -/
theorem region_ok (plan : Plan Γ.P Γ.N ops lis) (run : Run Γ.P ops lis us T s0 h0) {draw : Bool} (hm : Γ.P.follows .mixedOrders = true) (race : draw = true → Race ops us T) {Q : Exit → Act → World → Prop} {id : Nat}
    (hQ : ∀ a w ok lv, Rel Γ (sel (fun _ => true) 0 (lis.zip us) s0) (selH (fun _ => true) 0 (lis.zip us) h0) a w ok lv → Q .normal a w)
    {a : Act} {w : World} {ok : Nat → Prop} {lv : Nat → Option Reg} (R : Rel Γ s0 h0 a w ok lv) : (Code.region id ops draw).wp Γ.P Q a w := by
  have hnone : ∀ (L : Nat → Bool), (∀ k, L k = false) → sel L 0 (lis.zip us) s0 = s0 ∧ selH L 0 (lis.zip us) h0 = h0 := by
    intro L hL
    constructor
    · have : ∀ (l : List (LI × U)) (k : Nat) (s : Nat → S), sel L k l s = s := by
        intro l; induction l with
        | nil => intro k s; rfl
        | cons p l ih => intro k s; simp only [sel]; rw [ih, hL k]; rfl
      exact this _ _ _
    · have : ∀ (l : List (LI × U)) (k : Nat) (h : Nat → Option Ob), selH L k l h = h := by
        intro l; induction l with
        | nil => intro k s; rfl
        | cons p l ih => intro k s; simp only [selH]; rw [ih, hL k]; rfl
      exact this _ _ _
  cases draw with
  | false =>
    refine wp_region ?_
    rw [List.range_eq_range']
    refine inorder plan run hQ ops.size 0 a w (by omega) ⟨ok, lv, ?_⟩
    obtain ⟨e1, e2⟩ := hnone (fun k => decide (k < 0)) (by simp)
    rw [e1, e2]; exact R
  | true =>
    refine wp_region_any hm ?_
    have e0 : ∀ k, (Array.replicate ops.size false).getD k false = false := by
      intro k; simp only [Array.getD_eq_getD_getElem?, Array.getElem?_replicate]; split <;> rfl
    obtain ⟨e1, e2⟩ := hnone (fun k => (Array.replicate ops.size false).getD k false) e0
    refine sched plan run (race rfl) hQ ops.size _ a _ (by simp) (fun k o ho hk => by simp only [e0] at hk; cases hk) ?_ ⟨ok, lv, ?_⟩
    · unfold left
      have := List.countP_le_length (p := fun k => !(Array.replicate ops.size false).getD k false) (l := List.range ops.size)
      simpa using this
    · rw [e1, e2]
      exact R.world _ rfl rfl rfl rfl
end
end Go.Eng
