/-
  The engine, part W: the order of texts; a body's promise may be weakened; labels.
-/
import Derived.Test.YthbonnlhoaeflaaEngZ
set_option linter.unusedVariables false
set_option linter.unusedSimpArgs false
namespace Go.Eng
theorem bl_eq : ∀ (x y : List UInt8), Op.bytesLess x y = decide (x < y)
  | [], [] => by simp [Op.bytesLess]
  | [], b :: y => by simp [Op.bytesLess]
  | a :: x, [] => by simp [Op.bytesLess]
  | a :: x, b :: y => by
    rw [Op.bytesLess, bl_eq x y]
    by_cases h : a < b
    · simp [h, List.cons_lt_cons_iff]
    · by_cases e : a = b
      · subst e; simp [List.cons_lt_cons_iff]
      · simp [h, e, List.cons_lt_cons_iff]
theorem sLt_iff (s t : ByteArray) : sLt s t = true ↔ s.toList < t.toList := by unfold sLt; rw [bl_eq]; simp
theorem toList_inj (s t : ByteArray) : s.toList = t.toList ↔ s = t := by
  have := str_eq_iff s t
  by_cases h : s = t
  · simp [h]
  · simp only [h, decide_false, beq_eq_false_iff_ne] at this
    simp [h, this]
theorem sLt_irr (s : ByteArray) : sLt s s = false := by
  cases h : sLt s s with
  | false => rfl
  | true => exact absurd ((sLt_iff s s).1 h) (List.lt_irrefl _)
theorem sLt_trans {s t u : ByteArray} (h1 : sLt s t = true) (h2 : sLt t u = true) : sLt s u = true := (sLt_iff _ _).2 (List.lt_trans ((sLt_iff _ _).1 h1) ((sLt_iff _ _).1 h2))
theorem sLt_asymm {s t : ByteArray} (h1 : sLt s t = true) : sLt t s = false := by
  cases h : sLt t s with
  | false => rfl
  | true => rw [← sLt_irr s]; exact (sLt_trans h1 h).symm
theorem sLt_total {s t : ByteArray} (h1 : sLt s t = false) (h2 : sLt t s = false) : s = t := by
  rw [← toList_inj]
  have a : ¬ s.toList < t.toList := fun q => by rw [(sLt_iff s t).2 q] at h1; cases h1
  have b : ¬ t.toList < s.toList := fun q => by rw [(sLt_iff t s).2 q] at h2; cases h2
  exact List.le_antisymm b a
theorem doW_mono {P : Program} {d : Nat} {L : LOp} {st : St} {K K' : U → Prop} (hk : ∀ u, K u → K' u) (h : doW P d L st K) : doW P d L st K' := by
  unfold doW at h ⊢
  split at h
  · obtain ⟨f, cs, e1, e2, pins, hA, fargs, hB, res, σ, keep, L, gone, h1, h2, h3⟩ := h
    exact ⟨f, cs, e1, e2, pins, hA, fargs, hB, res, σ, keep, L, gone, h1, h2, hk _ h3⟩
  · obtain ⟨pins, hA, fargs, hB, res, σ, keep, L, gone, h1, h2, h3⟩ := h
    exact ⟨pins, hA, fargs, hB, res, σ, keep, L, gone, h1, h2, hk _ h3⟩
  · rename_i hnv hno
    have hd := opW_mono hk h
    cases L <;> first | exact absurd rfl (hno _ _) | exact absurd rfl (hnv _ _) | exact hd
theorem doT_mono {P : Program} {d : Nat} {L : LOp} {st : St} {K K' : U → List Nat → Prop} (hk : ∀ u T, K u T → K' u T) (h : doT P d L st K) : doT P d L st K' := by
  unfold doT at h ⊢
  split at h
  · obtain ⟨f, cs, e1, e2, pins, hA, fargs, hB, res, σ, keep, L, gone, h1, h2, h3⟩ := h
    exact ⟨f, cs, e1, e2, pins, hA, fargs, hB, res, σ, keep, L, gone, h1, h2, hk _ _ h3⟩
  · obtain ⟨pins, hA, fargs, hB, res, σ, keep, L, gone, h1, h2, h3⟩ := h
    exact ⟨pins, hA, fargs, hB, res, σ, keep, L, gone, h1, h2, hk _ _ h3⟩
  · exact hk _ _ h
  · rename_i hnv hno hnm
    have hd := opW_mono (K' := fun u => K' u ((d :: (L.args.flatMap fun x => (evalA (get st.s) x).refs)) ++ u.wr.map (·.1))) (fun u hu => hk _ _ hu) h
    cases L <;> first | exact absurd rfl (hno _ _) | exact absurd rfl (hnv _ _) | exact absurd rfl (hnm _) | exact hd
theorem stepW_mono {P : Program} {li : LI} {st : St} {K K' : St → U → Prop} (hk : ∀ s u, K s u → K' s u) (h : stepW P li st K) : stepW P li st K' := by
  unfold stepW at h ⊢
  split at h
  · exact doW_mono (hk _) h
  · split at h
    · exact ⟨fun e => doW_mono (hk _) (h.1 e), fun e => hk _ _ (h.2 e)⟩
    · exact ⟨h.1, hk _ _ h.2⟩
    · exact h.elim
theorem stepT_mono {P : Program} {li : LI} {st : St} {K K' : St → U → List Nat → Prop} (hk : ∀ s u T, K s u T → K' s u T) (h : stepT P li st K) : stepT P li st K' := by
  unfold stepT at h ⊢
  split at h
  · exact doT_mono (hk _) h
  · split at h
    · exact ⟨fun e => doT_mono (hk _) (h.1 e), fun e => hk _ _ _ (h.2 e)⟩
    · exact ⟨h.1, hk _ _ _ h.2⟩
    · exact h.elim
theorem run0_mono {P : Program} {K K' : St → Prop} (hk : ∀ s, K s → K' s) : ∀ (l : List LI) (st : St), run0 P l st K → run0 P l st K'
  | [], st, h => hk _ h
  | li :: r, st, h => stepW_mono (fun _ _ hh => run0_mono hk r _ hh) h
theorem run1_mono {P : Program} {K K' : St → Prop} (hk : ∀ s, K s → K' s) : ∀ (l : List (LI × List Nat)) (st : St) (tr : List (List Nat × List Nat)), run1 P l st tr K → run1 P l st tr K'
  | [], st, _, h => hk _ h
  | (li, un) :: r, st, tr, h => stepT_mono (fun _ _ _ hh => ⟨hh.1, run1_mono hk r _ _ hh.2⟩) h
theorem vc_mono {P : Program} {pins : List Nat} : ∀ (l : LC) (st : St) (Q Q' : Exit → St → Prop), (∀ e s, Q e s → Q' e s) → vc P pins l st Q → vc P pins l st Q'
  | .skip, st, Q, Q', hq, h => hq _ _ h
  | .reg false ops keep, st, Q, Q', hq, h => run0_mono (fun s hs => hq _ _ hs) _ _ h
  | .reg true ops keep, st, Q, Q', hq, h => run1_mono (fun s hs => hq _ _ hs) _ _ _ h
  | .seq a b, st, Q, Q', hq, h => by
    refine vc_mono a st _ _ ?_ h
    rintro (_ | _ | _ | _) s hs
    · exact vc_mono b s _ _ hq hs
    all_goals exact hq _ _ hs
  | .cond c a b, st, Q, Q', hq, h => by
    unfold vc condW at h ⊢
    split at h
    · exact ⟨fun e => vc_mono a st _ _ hq (h.1 e), fun e => vc_mono b st _ _ hq (h.2 e)⟩
    · exact h.elim
  | .block id b, st, Q, Q', hq, h => by
    refine vc_mono b st _ _ ?_ h
    rintro (_ | i | _ | _) s hs
    · exact hq _ _ hs
    all_goals first | (simp only [Kblock] at hs ⊢; split; rename_i e; rw [if_pos e] at hs; exact hq _ _ hs; rename_i e; rw [if_neg e] at hs; exact hq _ _ hs) | exact hq _ _ hs
  | .loop b, st, Q, Q', hq, h => by
    obtain ⟨α, I, G, μ, h0, h1⟩ := h
    refine ⟨α, I, G, μ, h0, fun x hx => vc_mono b _ _ _ ?_ (h1 x hx)⟩
    rintro (_ | _ | _ | _) s hs
    · exact hs
    all_goals exact hq _ _ hs
  | .exit id, st, Q, Q', hq, h => hq _ _ h
  | .scope lab b rest, st, Q, Q', hq, h => by
    obtain ⟨α, I, G, μ, h0, h1⟩ := h
    refine ⟨α, I, G, μ, vc_mono b _ _ _ ?_ h0, fun x hx => vc_mono rest _ _ _ ?_ (h1 x hx)⟩
    · rintro (_ | _ | _ | _) s hs
      all_goals first | exact hq _ _ hs | exact hs
    · rintro (_ | _ | _ | _) s hs
      all_goals first | exact hq _ _ hs | exact hs
  | .label, st, Q, Q', hq, h => h.elim fun s hs => ⟨s, hs.1, hq _ _ hs.2⟩
  | .goto l, st, Q, Q', hq, h => hq _ _ h
  | .ret, st, Q, Q', hq, h => hq _ _ h
/-- A label that is passed once from ahead, and then by its gotos: told once for both. -/
theorem vc_scope' {P : Program} {p : List Nat} {lab : Nat} {b r : LC} {st : St} {Q : Exit → St → Prop} {α : Type} (I : α → St) (G : α → Prop) (μ : α → Nat) (h2 : ∀ x, G x → vc P p r (I x) (Kgoto p lab I G μ (μ x) Q))
    (h1 : (∀ x, G x → vc P p r (I x) (Kgoto p lab I G μ (μ x) Q)) → vc P p b st (Kgoto0 p lab I G Q)) : vc P p (.scope lab b r) st Q := vc_scope I G μ (h1 h2) h2
theorem vc_label_in {P : Program} {p : List Nat} {lab : Nat} {t : LC} {st : St} {Q : Exit → St → Prop} {α : Type} {I : α → St} {G : α → Prop} {μ : α → Nat} (x : α) (e : LE p st (I x)) (h : vc P p (.seq .skip t) (I x) (Kgoto p lab I G μ (μ x) Q)) :
    vc P p .label st (Kseq (fun st' => vc P p t st' (Kgoto0 p lab I G Q)) (Kgoto0 p lab I G Q)) := by
  refine ⟨I x, e, ?_⟩
  show vc P p t (I x) (Kgoto0 p lab I G Q)
  have h' : vc P p t (I x) (Kgoto p lab I G μ (μ x) Q) := h
  refine vc_mono t _ _ _ ?_ h'
  rintro (_ | _ | _ | l) s hs
  all_goals first | exact hs | skip
  obtain ⟨e, y, g, _, q⟩ := hs
  exact ⟨e, y, g, q⟩
/-- A label that no goto leads to. -/
theorem vc_label_of {P : Program} {p : List Nat} {st : St} {Q : Exit → St → Prop} (h : Q .normal st) : vc P p .label st Q := ⟨st, LE.refl _ _, h⟩
theorem int_beq' (a b : Int) : (a == b) = decide (a = b) := rfl
theorem and_dec (p q : Prop) [Decidable p] [Decidable q] : (decide p && decide q) = decide (p ∧ q) := (Bool.decide_and p q).symm
theorem bool_beq' (a b : Bool) : (a == b) = decide (a = b) := by cases a <;> cases b <;> rfl
end Go.Eng
