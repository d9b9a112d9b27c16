import Derived.Test.YthbonnlhoaeflaaExG
import Derived.Test.YthbonnlhoaeflaaExH
import Derived.Test.YthbonnlhoaeflaaExI
set_option linter.unusedVariables false
set_option linter.unusedSimpArgs false
namespace Go.Proofs.Ex
open Go.Eng
set_option linter.unusedVariables false
theorem inL_nil (p : Int) : ¬ inL [] p := by rintro ⟨z, h, _⟩; simp at h
theorem inL_cons (z : Z) (l : List Z) (p : Int) : inL (z :: l) p ↔ ((z.1 : Int) ≤ p ∧ p < ((z.1 + z.2 : Nat) : Int)) ∨ inL l p := by
  unfold inL; simp
theorem inL_app (l m : List Z) (p : Int) : inL (l ++ m) p ↔ inL l p ∨ inL m p := by
  induction l with
  | nil => simp [inL_nil]
  | cons z l ih => rw [List.cons_append, inL_cons, inL_cons, ih, or_assoc]
theorem inL_perm {l m : List Z} (h : l.Perm m) (p : Int) : inL l p ↔ inL m p := by
  unfold inL
  exact ⟨fun ⟨z, h1, h2⟩ => ⟨z, h.mem_iff.1 h1, h2⟩, fun ⟨z, h1, h2⟩ => ⟨z, h.mem_iff.2 h1, h2⟩⟩
theorem may_gt : ∀ {l : List Z} {a n : Int}, mayG a l n → ∀ z ∈ l, a < (z.1 : Int) ∧ 0 < z.2 ∧ ((z.1 + z.2 : Nat) : Int) ≤ n
  | [], a, n, h, z, hz => by simp at hz
  | y :: l, a, n, h, z, hz => by
    unfold mayG at h
    have hmn : ∀ {l : List Z} {a : Int}, mayG a l n → a ≤ n := by
      intro l
      induction l with
      | nil => intro a h; exact h
      | cons y l ih => intro a h; unfold mayG at h; have := ih h.2.2; omega
    have h3 := hmn h.2.2
    rcases List.mem_cons.1 hz with hz | hz
    · subst hz; exact ⟨h.2.1, h.1, h3⟩
    · have := may_gt h.2.2 z hz
      exact ⟨by omega, this.2⟩
theorem may_end : ∀ {l : List Z} {a n : Int}, mayG a l n → a ≤ n
  | [], a, n, h => h
  | y :: l, a, n, h => by unfold mayG at h; have := may_end h.2.2; omega
theorem may_mono : ∀ {l : List Z} {a n m : Int}, mayG a l n → n ≤ m → mayG a l m
  | [], a, n, m, h, q => by unfold mayG at *; omega
  | y :: l, a, n, m, h, q => by unfold mayG at *; exact ⟨h.1, h.2.1, may_mono h.2.2 q⟩
theorem may_snoc (z : Z) (n : Int) : ∀ (l : List Z) (a : Int), mayG a (l ++ [z]) n ↔ mayG a l ((z.1 : Int) - 1) ∧ 0 < z.2 ∧ ((z.1 + z.2 : Nat) : Int) ≤ n
  | [], a => by simp only [List.nil_append, mayG]; omega
  | y :: l, a => by
    simp only [List.cons_append, mayG]
    rw [may_snoc z n l]
    constructor
    · rintro ⟨h1, h2, h3, h4, h5⟩; exact ⟨⟨h1, h2, h3⟩, h4, h5⟩
    · rintro ⟨⟨h1, h2, h3⟩, h4, h5⟩; exact ⟨h1, h2, h3, h4, h5⟩
/-- One row alone has given places. -/
theorem may_uniq : ∀ {l m : List Z} {a b n k : Int}, mayG a l n → mayG b m k → (∀ p, inL l p ↔ inL m p) → l = m
  | [], [], _, _, _, _, _, _, _ => rfl
  | [], z :: m, _, _, _, _, h1, h2, h => by
    unfold mayG at h2
    exact absurd ((h z.1).2 ((inL_cons _ _ _).2 (.inl ⟨by omega, by omega⟩))) (inL_nil _)
  | z :: l, [], _, _, _, _, h1, h2, h => by
    unfold mayG at h1
    exact absurd ((h z.1).1 ((inL_cons _ _ _).2 (.inl ⟨by omega, by omega⟩))) (inL_nil _)
  | z :: l, y :: m, a, b, n, k, h1, h2, h => by
    unfold mayG at h1 h2
    have g1 := may_gt h1.2.2
    have g2 := may_gt h2.2.2
    have lo1 : ∀ p, inL (z :: l) p → (z.1 : Int) ≤ p := by
      rintro p ⟨x, hx, q1, q2⟩
      rcases List.mem_cons.1 hx with rfl | hx
      · exact q1
      · have := (g1 x hx).1; omega
    have lo2 : ∀ p, inL (y :: m) p → (y.1 : Int) ≤ p := by
      rintro p ⟨x, hx, q1, q2⟩
      rcases List.mem_cons.1 hx with rfl | hx
      · exact q1
      · have := (g2 x hx).1; omega
    have s1 := lo2 z.1 ((h z.1).1 ((inL_cons _ _ _).2 (.inl ⟨by omega, by omega⟩)))
    have s2 := lo1 y.1 ((h y.1).2 ((inL_cons _ _ _).2 (.inl ⟨by omega, by omega⟩)))
    have e1 : z.1 = y.1 := by omega
    have n1 : ¬ inL (z :: l) ((z.1 + z.2 : Nat) : Int) := by
      rintro ⟨x, hx, q1, q2⟩
      rcases List.mem_cons.1 hx with rfl | hx
      · omega
      · have := (g1 x hx).1; omega
    have n2 : ¬ inL (y :: m) ((y.1 + y.2 : Nat) : Int) := by
      rintro ⟨x, hx, q1, q2⟩
      rcases List.mem_cons.1 hx with rfl | hx
      · omega
      · have := (g2 x hx).1; omega
    have e2 : z.2 = y.2 := by
      rcases Nat.lt_trichotomy z.2 y.2 with q | q | q
      · exact absurd ((h _).2 ((inL_cons _ _ _).2 (.inl ⟨by omega, by omega⟩))) n1
      · exact q
      · exact absurd ((h _).1 ((inL_cons _ _ _).2 (.inl ⟨by omega, by omega⟩))) n2
    have e : z = y := Prod.ext e1 e2
    subst e
    congr 1
    refine may_uniq h1.2.2 h2.2.2 fun p => ?_
    have hp := h p
    rw [inL_cons, inL_cons] at hp
    constructor
    · intro q
      obtain ⟨x, hx, q1, q2⟩ := q
      have := (g1 x hx).1
      rcases hp.1 (.inr ⟨x, hx, q1, q2⟩) with r | r
      · omega
      · exact r
    · intro q
      obtain ⟨x, hx, q1, q2⟩ := q
      have := (g2 x hx).1
      rcases hp.2 (.inr ⟨x, hx, q1, q2⟩) with r | r
      · omega
      · exact r
theorem step_nil {out : List Z} {z : Z} (h : z.2 = 0) : step out z = out := by unfold step; rw [if_pos (by omega)]
theorem step_facts {out : List Z} {z : Z} {B : Nat} (hB : B ≤ 1099511627776) (hz : z.1 + z.2 ≤ B) (ho : mayG (-1) out B) (hlt : ∀ x ∈ out, x.1 ≤ z.1) :
    mayG (-1) (step out z) B ∧ (∀ p, inL (step out z) p ↔ inL out p ∨ ((z.1 : Int) ≤ p ∧ p < ((z.1 + z.2 : Nat) : Int))) ∧ ∀ x ∈ step out z, x.1 ≤ z.1 := by
  by_cases h0 : z.2 = 0
  · rw [step_nil h0]
    exact ⟨ho, fun p => ⟨.inl, fun q => q.resolve_right (by omega)⟩, hlt⟩
  have hm : min (z.1 + z.2) 1099511627776 = z.1 + z.2 := by omega
  have hs : step out z = if 0 < out.length ∧ z.1 ≤ (lastZ out).1 + (lastZ out).2 then out.set (out.length - 1) ((lastZ out).1, max (z.1 + z.2) ((lastZ out).1 + (lastZ out).2) - (lastZ out).1) else out ++ [(z.1, z.2)] := by
    unfold step; rw [hm, if_neg (by omega), show z.1 + z.2 - z.1 = z.2 by omega]
  rcases List.eq_nil_or_concat out with rfl | ⟨pre, y, rfl⟩
  · rw [hs, if_neg (by simp)]
    refine ⟨?_, fun p => by rw [List.nil_append, inL_cons]; simp [inL_nil], by simp⟩
    simp only [List.nil_append, mayG]
    omega
  · rw [List.concat_eq_append] at *
    have hl : lastZ (pre ++ [y]) = y := by unfold lastZ; simp
    have hset : ∀ v, (pre ++ [y]).set ((pre ++ [y]).length - 1) v = pre ++ [v] := by intro v; simp
    have hy := hlt y (by simp)
    rw [may_snoc] at ho
    rw [hs, hl, hset]
    split
    · rename_i hc
      refine ⟨?_, fun p => ?_, ?_⟩
      · rw [may_snoc]
        exact ⟨ho.1, by simp only; omega, by simp only; omega⟩
      · rw [inL_app, inL_app, inL_cons, inL_cons]
        simp only [inL_nil, or_false]
        have : ((y.1 : Int) ≤ p ∧ p < ((y.1 + (max (z.1 + z.2) (y.1 + y.2) - y.1) : Nat) : Int)) ↔ ((y.1 : Int) ≤ p ∧ p < ((y.1 + y.2 : Nat) : Int)) ∨ ((z.1 : Int) ≤ p ∧ p < ((z.1 + z.2 : Nat) : Int)) := by omega
        rw [this, or_assoc]
      · intro x hx
        rcases List.mem_append.1 hx with hx | hx
        · exact hlt x (by simp [hx])
        · rw [List.mem_singleton.1 hx]; exact hy
    · rename_i hc
      refine ⟨?_, fun p => ?_, ?_⟩
      · have hc2 : ¬ z.1 ≤ y.1 + y.2 := fun q => hc ⟨by simp, q⟩
        rw [may_snoc, may_snoc]
        exact ⟨⟨ho.1, ho.2.1, by simp only; omega⟩, by simp only; omega, by simp only; omega⟩
      · rw [inL_app (pre ++ [y]), inL_cons]
        simp only [inL_nil, or_false]
      · intro x hx
        rcases List.mem_append.1 hx with hx | hx
        · exact hlt x hx
        · rw [List.mem_singleton.1 hx]; exact Nat.le_refl _
theorem fold_facts {B : Nat} (hB : B ≤ 1099511627776) : ∀ (s out : List Z), s.Pairwise (fun x y => x.1 ≤ y.1) → (∀ z ∈ s, z.1 + z.2 ≤ B) → mayG (-1) out B → (∀ x ∈ out, ∀ z ∈ s, x.1 ≤ z.1) →
    mayG (-1) (s.foldl step out) B ∧ ∀ p, inL (s.foldl step out) p ↔ inL out p ∨ inL s p
  | [], out, hs, hz, ho, hlt => ⟨ho, fun p => by simp [inL_nil]⟩
  | z :: s, out, hs, hz, ho, hlt => by
    obtain ⟨f1, f2, f3⟩ := step_facts hB (hz z (by simp)) ho (fun x hx => hlt x hx z (by simp))
    have hsc := List.pairwise_cons.1 hs
    obtain ⟨r1, r2⟩ := fold_facts hB s (step out z) hsc.2 (fun x hx => hz x (by simp [hx])) f1 (fun x hx y hy => Nat.le_trans (f3 x hx) (hsc.1 y hy))
    refine ⟨r1, fun p => ?_⟩
    rw [List.foldl_cons, r2, f2, inL_cons, or_assoc]
theorem norm_facts {l : List Z} {B : Nat} (hB : B ≤ 1099511627776) (hz : ∀ z ∈ l, z.1 + z.2 ≤ B) : mayG (-1) (normL l) B ∧ ∀ p, inL (normL l) p ↔ inL l p := by
  have hsrt : (sortR ltZ l).Pairwise (fun x y => x.1 ≤ y.1) := by
    have h := sortK_sorted keyZ l
    rw [← ltZ_eq] at h
    unfold SortedK at h
    refine h.imp fun q => ?_
    unfold keyZ at q
    omega
  obtain ⟨f1, f2⟩ := fold_facts hB (sortR ltZ l) [] hsrt (fun z hz' => hz z ((sortR_perm l).mem_iff.1 hz')) (by simp only [mayG]; omega) (by simp)
  refine ⟨f1, fun p => ?_⟩
  unfold normL
  rw [f2, inL_perm (sortR_perm l)]
  simp [inL_nil]
theorem norm_self {l : List Z} {B : Nat} (hB : B ≤ 1099511627776) (h : mayG (-1) l B) : normL l = l := by
  have hz : ∀ z ∈ l, z.1 + z.2 ≤ B := fun z hz => by have := (may_gt h z hz).2.2; omega
  obtain ⟨f1, f2⟩ := norm_facts hB hz
  exact may_uniq f1 h f2
/-- The rest of the places up to sz, from a place on. -/
def hol (sz : Nat) : Nat → List Z → List Z
  | a, [] => if a < sz then [(a, sz - a)] else []
  | a, z :: l => (if a < min z.1 sz then [(a, min z.1 sz - a)] else []) ++ hol sz (max a (z.1 + z.2)) l
theorem hol_eq {sz : Nat} (hsz : sz ≤ 1099511627776) : ∀ (l : List Z) (a : Nat) (out : List Z), ((l ++ [(1099511627776, 0)]).foldl (hstep sz) (a, out)).2 = out ++ hol sz a l
  | [], a, out => by
    have hm : min 1099511627776 sz = sz := by omega
    simp only [List.nil_append, List.foldl_cons, List.foldl_nil, hstep, hol, hm]
    split <;> simp
  | z :: l, a, out => by
    rw [List.cons_append, List.foldl_cons]
    have : hstep sz (a, out) z = (max a (z.1 + z.2), if a < min z.1 sz then out ++ [(a, min z.1 sz - a)] else out) := rfl
    rw [this, hol_eq hsz l]
    simp only [hol]
    split <;> simp
theorem holesN_eq {sz : Nat} (hsz : sz ≤ 1099511627776) (l : List Z) : holesN l sz = hol sz 0 l := by
  unfold holesN; rw [hol_eq hsz, List.nil_append]
theorem may_app_hole {b : Int} {a e : Nat} {l : List Z} {n : Int} (c : Prop) [Decidable c] (hb : b < a) (hc : c → a < e) (h1 : c → mayG (e : Int) l n) (h2 : ¬ c → mayG b l n) : mayG b ((if c then [(a, e - a)] else []) ++ l) n := by
  split
  · rename_i h
    have := hc h
    simp only [List.cons_append, List.nil_append, mayG]
    refine ⟨by omega, hb, ?_⟩
    rw [show a + (e - a) = e by omega]
    exact h1 h
  · rename_i h; exact h2 h
theorem hol_may (sz : Nat) : ∀ (l : List Z) (a : Nat) (b : Int), b < a → b ≤ sz → (∀ z ∈ l, 0 < z.2) → mayG b (hol sz a l) sz
  | [], a, b, hb, hs, hz => by
    have := may_app_hole (l := []) (n := sz) (a < sz) hb (e := sz) (fun h => h) (fun _ => by simp only [mayG]; omega) (fun _ => by simp only [mayG]; omega)
    rwa [List.append_nil] at this
  | z :: l, a, b, hb, hs, hz => by
    have h0 := hz z (by simp)
    have hz2 : ∀ x ∈ l, 0 < x.2 := fun x hx => hz x (by simp [hx])
    refine may_app_hole _ hb (fun h => h) (fun h => ?_) (fun h => ?_)
    · exact hol_may sz l _ _ (by omega) (by omega) hz2
    · exact hol_may sz l _ _ (by omega) (by omega) hz2
theorem inL_hole {c : Prop} [Decidable c] {a e : Nat} {l : List Z} {p : Int} (hc : c → a < e) : inL ((if c then [(a, e - a)] else []) ++ l) p ↔ (c ∧ (a : Int) ≤ p ∧ p < e) ∨ inL l p := by
  split
  · rename_i h
    have := hc h
    rw [inL_app, inL_cons]
    simp only [inL_nil, or_false, h, true_and]
    rw [show a + (e - a) = e by omega]
  · rename_i h; simp [h]
theorem hol_in (sz : Nat) : ∀ (l : List Z) (a : Nat) (b n : Int), mayG b l n → ∀ p, inL (hol sz a l) p ↔ (a : Int) ≤ p ∧ p < sz ∧ ¬ inL l p
  | [], a, b, n, h, p => by
    have := inL_hole (c := a < sz) (a := a) (e := sz) (l := []) (p := p) (fun h => h)
    rw [List.append_nil] at this
    simp only [hol]
    rw [this]
    simp only [inL_nil, or_false, not_false_eq_true, and_true]
    omega
  | z :: l, a, b, n, h, p => by
    unfold mayG at h
    have g := may_gt h.2.2
    simp only [hol]
    rw [inL_hole (fun h => h), hol_in sz l _ _ _ h.2.2 p, inL_cons]
    have hl : inL l p → ((z.1 + z.2 : Nat) : Int) < p := by
      rintro ⟨x, hx, q1, q2⟩
      have := (g x hx).1
      omega
    by_cases hi : inL l p
    · have := hl hi
      obtain ⟨m, hm⟩ : ∃ m : Nat, min z.1 sz = m := ⟨_, rfl⟩
      rw [hm]
      constructor
      · rintro (q | q)
        · omega
        · exact absurd hi q.2.2
      · rintro ⟨_, _, q⟩
        exact absurd (.inr hi) q
    · simp only [hi, or_false]
      obtain ⟨m, hm⟩ : ∃ m : Nat, min z.1 sz = m := ⟨_, rfl⟩
      obtain ⟨M, hM⟩ : ∃ M : Nat, max a (z.1 + z.2) = M := ⟨_, rfl⟩
      rw [hm, hM]
      simp only [not_false_eq_true, and_true]
      constructor
      · rintro (q | q)
        · omega
        · omega
      · intro q
        by_cases q2 : p < z.1
        · left; omega
        · right; omega
def sumL (l : List Z) : Nat := (l.map (·.2)).sum
theorem sumL_cons (z : Z) (l : List Z) : sumL (z :: l) = z.2 + sumL l := by simp [sumL]
theorem sumL_app (l m : List Z) : sumL (l ++ m) = sumL l + sumL m := by simp [sumL]
theorem hol_sum (sz : Nat) : ∀ (l : List Z) (a : Nat) (b : Int), mayG b l sz → (∀ z ∈ l, a ≤ z.1) → a ≤ sz → sumL (hol sz a l) + sumL l + a = sz
  | [], a, b, h, h1, h2 => by
    simp only [hol]
    split
    · simp [sumL]; omega
    · simp [sumL]; omega
  | z :: l, a, b, h, h1, h2 => by
    have gz := may_gt h z (by simp)
    unfold mayG at h
    have g := may_gt h.2.2
    have ha := h1 z (by simp)
    have ih := hol_sum sz l (max a (z.1 + z.2)) _ h.2.2 (fun x hx => by have := (g x hx).1; omega) (by omega)
    simp only [hol]
    rw [sumL_app, sumL_cons]
    have : sumL (if a < min z.1 sz then [(a, min z.1 sz - a)] else []) = z.1 - a := by
      split
      · simp [sumL]; omega
      · simp [sumL]; omega
    omega
theorem meet_facts (a e : Nat) : ∀ (l : List Z) (out : List Z) (b n : Int) , mayG b l n → mayG (-1) out b → e ≤ 1099511627776 * 2 →
    mayG (-1) (l.foldl (mstep a e) out) n ∧ ∀ p, inL (l.foldl (mstep a e) out) p ↔ inL out p ∨ (inL l p ∧ (a : Int) ≤ p ∧ p < e)
  | [], out, b, n, h, ho, he => ⟨may_mono ho (may_end h), fun p => by simp [inL_nil]⟩
  | z :: l, out, b, n, h, ho, he => by
    unfold mayG at h
    have hs : mayG (-1) (mstep a e out z) ((z.1 + z.2 : Nat) : Int) ∧ ∀ p, inL (mstep a e out z) p ↔ inL out p ∨ (((z.1 : Int) ≤ p ∧ p < ((z.1 + z.2 : Nat) : Int)) ∧ (a : Int) ≤ p ∧ p < e) := by
      unfold mstep
      split
      · refine ⟨?_, fun p => ?_⟩
        · rw [may_snoc]
          exact ⟨may_mono ho (by simp only; omega), by simp only; omega, by simp only; omega⟩
        · rw [inL_app, inL_cons]
          simp only [inL_nil, or_false]
          have : (((max z.1 a : Nat) : Int) ≤ p ∧ p < ((max z.1 a + (min (z.1 + z.2) e - max z.1 a) : Nat) : Int)) ↔ (((z.1 : Int) ≤ p ∧ p < ((z.1 + z.2 : Nat) : Int)) ∧ (a : Int) ≤ p ∧ p < e) := by omega
          rw [this]
      · refine ⟨may_mono ho (by omega), fun p => ⟨.inl, fun q => q.resolve_right (by omega)⟩⟩
    obtain ⟨r1, r2⟩ := meet_facts a e l _ _ n h.2.2 hs.1 he
    refine ⟨r1, fun p => ?_⟩
    rw [List.foldl_cons, r2, hs.2, inL_cons]
    generalize inL out p = A
    generalize inL l p = C
    constructor
    · rintro ((q | q) | q)
      · exact .inl q
      · exact .inr ⟨.inl q.1, q.2⟩
      · exact .inr ⟨.inr q.1, q.2⟩
    · rintro (q | ⟨q | q, r⟩)
      · exact .inl (.inl q)
      · exact .inl (.inr ⟨q, r⟩)
      · exact .inr ⟨q, r⟩
end Go.Proofs.Ex
