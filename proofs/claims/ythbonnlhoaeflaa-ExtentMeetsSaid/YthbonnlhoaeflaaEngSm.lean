/-
  The engine: stable sorting, in plain Lean: putting in one by one; what is sorted and keeps each key's row is one list alone; two sorted rows split and joined.
-/
import Derived.Test.YthbonnlhoaeflaaEngW
set_option linter.unusedVariables false
set_option linter.unusedSimpArgs false
namespace Go.Eng
section
variable {α : Type}
/-- One is put in from the right. -/
def insR (lt : α → α → Bool) (x : α) (m : List α) : List α := (m.reverse.dropWhile (lt x)).reverse ++ x :: (m.reverse.takeWhile (lt x)).reverse
def sortR (lt : α → α → Bool) (l : List α) : List α := l.foldl (fun m x => insR lt x m) []
theorem insR_of {lt : α → α → Bool} {x : α} {A B : List α} (h1 : ∀ b ∈ B, lt x b = true) (h2 : ∀ a ∈ A.getLast?, lt x a = false) : insR lt x (A ++ B) = A ++ x :: B := by
  have hb : ∀ b ∈ B.reverse, lt x b = true := fun b hb => h1 b (List.mem_reverse.1 hb)
  have t : A.reverse.takeWhile (lt x) = [] ∧ A.reverse.dropWhile (lt x) = A.reverse := by
    cases hA : A.reverse with
    | nil => exact ⟨rfl, rfl⟩
    | cons a r =>
      have : A.getLast? = some a := by rw [← List.head?_reverse, hA]; rfl
      have hf := h2 a (by rw [this]; rfl)
      exact ⟨by simp [List.takeWhile, hf], by simp [List.dropWhile, hf]⟩
  unfold insR
  rw [List.reverse_append, List.takeWhile_append_of_pos hb, List.dropWhile_append_of_pos hb, t.1, t.2, List.append_nil, List.reverse_reverse, List.reverse_reverse]
theorem insR_len {lt : α → α → Bool} {x : α} {m : List α} : (insR lt x m).length = m.length + 1 := by
  have := congrArg List.length (List.takeWhile_append_dropWhile (p := lt x) (l := m.reverse))
  simp only [List.length_append, List.length_reverse] at this
  unfold insR
  simp only [List.length_append, List.length_cons, List.length_reverse]
  omega
theorem insR_perm {lt : α → α → Bool} {x : α} {m : List α} : (insR lt x m).Perm (x :: m) := by
  have h : m = (m.reverse.dropWhile (lt x)).reverse ++ (m.reverse.takeWhile (lt x)).reverse := by
    rw [← List.reverse_append, List.takeWhile_append_dropWhile, List.reverse_reverse]
  unfold insR
  refine List.perm_middle.trans ?_
  rw [← h]
theorem foldl_perm {lt : α → α → Bool} : ∀ (l m : List α), (l.foldl (fun m x => insR lt x m) m).Perm (m ++ l)
  | [], m => by simp
  | x :: l, m => by
    refine (foldl_perm l (insR lt x m)).trans ?_
    refine ((insR_perm).append_right l).trans ?_
    simpa using (List.perm_middle (a := x) (l₁ := m) (l₂ := l)).symm
theorem sortR_perm {lt : α → α → Bool} (l : List α) : (sortR lt l).Perm l := by have := foldl_perm (lt := lt) l []; rwa [List.nil_append] at this
theorem sortR_len {lt : α → α → Bool} (l : List α) : (sortR lt l).length = l.length := (sortR_perm l).length_eq
theorem sortR_snoc {lt : α → α → Bool} (l : List α) (x : α) : sortR lt (l ++ [x]) = insR lt x (sortR lt l) := by simp [sortR, List.foldl_append]
theorem sortR_step {lt : α → α → Bool} (l : List α) (i : Nat) (h : i < l.length) : sortR lt (l.take (i + 1)) = insR lt l[i] (sortR lt (l.take i)) := by rw [List.take_succ_eq_append_getElem h, sortR_snoc]
end
section
variable {α : Type} (key : α → Int)
def ltK (a b : α) : Bool := decide (key a < key b)
def SortedK (l : List α) : Prop := l.Pairwise fun a b => key a ≤ key b
/-- Those of a key. -/
def ofK (k : Int) (l : List α) : List α := l.filter fun a => decide (key a = k)
theorem ofK_app (k : Int) (a b : List α) : ofK key k (a ++ b) = ofK key k a ++ ofK key k b := by simp [ofK]
theorem ofK_nil_of {k : Int} {l : List α} (h : ∀ a ∈ l, key a ≠ k) : ofK key k l = [] := by
  unfold ofK
  rw [List.filter_eq_nil_iff]
  intro a ha
  simpa using h a ha
theorem mem_ofK {k : Int} {l : List α} {a : α} : a ∈ ofK key k l ↔ a ∈ l ∧ key a = k := by simp [ofK]
theorem eq_of_rows : ∀ (l m : List α), SortedK key l → SortedK key m → (∀ k, ofK key k l = ofK key k m) → l = m
  | [], [], _, _, _ => rfl
  | [], b :: m, _, _, h => by
    have := (mem_ofK key (k := key b) (l := b :: m) (a := b)).2 ⟨List.mem_cons_self .., rfl⟩
    rw [← h (key b)] at this
    cases this
  | a :: l, [], _, _, h => by
    have := (mem_ofK key (k := key a) (l := a :: l) (a := a)).2 ⟨List.mem_cons_self .., rfl⟩
    rw [h (key a)] at this
    cases this
  | a :: l, b :: m, hl, hm, h => by
    have hl' := List.pairwise_cons.1 hl
    have hm' := List.pairwise_cons.1 hm
    have h1 : key b ≤ key a := by
      have := (mem_ofK key (k := key a) (l := a :: l) (a := a)).2 ⟨List.mem_cons_self .., rfl⟩
      rw [h (key a)] at this
      have := ((mem_ofK key).1 this).1
      rcases List.mem_cons.1 this with e | e
      · rw [e]; exact Int.le_refl _
      · exact hm'.1 a e
    have h2 : key a ≤ key b := by
      have := (mem_ofK key (k := key b) (l := b :: m) (a := b)).2 ⟨List.mem_cons_self .., rfl⟩
      rw [← h (key b)] at this
      have := ((mem_ofK key).1 this).1
      rcases List.mem_cons.1 this with e | e
      · rw [e]; exact Int.le_refl _
      · exact hl'.1 b e
    have e : key a = key b := by omega
    have hk := h (key a)
    unfold ofK at hk
    rw [List.filter_cons_of_pos (by simp), List.filter_cons_of_pos (by simp [e])] at hk
    obtain ⟨rfl, hr⟩ := List.cons.inj hk
    rw [eq_of_rows l m hl'.2 hm'.2 fun k => ?_]
    by_cases ek : k = key a
    · subst ek; exact hr
    · have := h k
      unfold ofK at this
      rw [List.filter_cons_of_neg (by simpa using Ne.symm ek), List.filter_cons_of_neg (by simpa using Ne.symm ek)] at this
      exact this
theorem insK_facts (x : α) (m : List α) (h : SortedK key m) : SortedK key (insR (ltK key) x m) ∧ ∀ k, ofK key k (insR (ltK key) x m) = ofK key k (m ++ [x]) := by
  have hs : m = (m.reverse.dropWhile (ltK key x)).reverse ++ (m.reverse.takeWhile (ltK key x)).reverse := by
    rw [← List.reverse_append, List.takeWhile_append_dropWhile, List.reverse_reverse]
  have h1 : ∀ b ∈ (m.reverse.takeWhile (ltK key x)).reverse, key x < key b := fun b hb => by
    have := List.all_takeWhile (p := ltK key x) (l := m.reverse)
    have := List.all_eq_true.1 this b (List.mem_reverse.1 hb)
    unfold ltK at this; simpa using this
  have h2 : ∀ a, (m.reverse.dropWhile (ltK key x)).reverse.getLast? = some a → key a ≤ key x := fun a ha => by
    rw [List.getLast?_reverse] at ha
    have := List.head?_dropWhile_not (ltK key x) m.reverse
    rw [ha] at this
    unfold ltK at this
    simpa using this
  unfold insR
  generalize (m.reverse.dropWhile (ltK key x)).reverse = A at *
  generalize (m.reverse.takeWhile (ltK key x)).reverse = B at *
  subst hs
  unfold SortedK at *
  rw [List.pairwise_append] at h
  have hax : ∀ a ∈ A, key a ≤ key x := fun a ha => by
    rcases List.eq_nil_or_concat A with rfl | ⟨A', y, rfl⟩
    · cases ha
    · rw [List.concat_eq_append] at *
      have hy := h2 y (by simp)
      rcases List.mem_append.1 ha with ha | ha
      · have := (List.pairwise_append.1 h.1).2.2 a ha y (List.mem_singleton_self _); omega
      · rw [List.mem_singleton.1 ha]; exact hy
  constructor
  · rw [List.pairwise_append]
    refine ⟨h.1, List.pairwise_cons.2 ⟨fun b hb => by have := h1 b hb; omega, h.2.1⟩, fun a ha b hb => ?_⟩
    rcases List.mem_cons.1 hb with rfl | hb
    · exact hax a ha
    · exact h.2.2 a ha b hb
  · intro k
    rw [ofK_app, ofK_app, ofK_app, List.append_assoc]
    congr 1
    by_cases e : key x = k
    · have : ofK key k B = [] := ofK_nil_of key fun b hb => by have := h1 b hb; omega
      rw [this]
      unfold ofK at *
      simp [e, this]
    · unfold ofK
      simp [e]
theorem foldK_facts : ∀ (l m : List α), SortedK key m → SortedK key (l.foldl (fun m x => insR (ltK key) x m) m) ∧ ∀ k, ofK key k (l.foldl (fun m x => insR (ltK key) x m) m) = ofK key k (m ++ l)
  | [], m, h => ⟨h, fun k => by simp⟩
  | x :: l, m, h => by
    obtain ⟨h1, h2⟩ := insK_facts key x m h
    obtain ⟨g1, g2⟩ := foldK_facts l _ h1
    refine ⟨g1, fun k => ?_⟩
    rw [List.foldl_cons, g2 k, ofK_app, h2 k, ← ofK_app, List.append_assoc]
    rfl
theorem sortK_sorted (l : List α) : SortedK key (sortR (ltK key) l) := (foldK_facts key l [] .nil).1
theorem sortK_rows (l : List α) (k : Int) : ofK key k (sortR (ltK key) l) = ofK key k l := by have := (foldK_facts key l [] .nil).2 k; rwa [List.nil_append] at this
theorem sortK_of_sorted {l : List α} (h : SortedK key l) : sortR (ltK key) l = l := eq_of_rows key _ _ (sortK_sorted key l) h (sortK_rows key l)
theorem sortK_mem {l : List α} {a : α} : a ∈ sortR (ltK key) l ↔ a ∈ l := (sortR_perm l).mem_iff
/-- Two sorted rows, each split, the parts joined crosswise. -/
theorem merge_split {X1 X2 Y1 Y2 : List α} (hX : SortedK key (X1 ++ X2)) (hY : SortedK key (Y1 ++ Y2)) (h1 : ∀ y ∈ Y1, ∀ x ∈ X2, key y < key x) (h2 : ∀ x ∈ X1, ∀ y ∈ Y2, key x ≤ key y) :
    sortR (ltK key) (X1 ++ Y1) ++ sortR (ltK key) (X2 ++ Y2) = sortR (ltK key) ((X1 ++ X2) ++ (Y1 ++ Y2)) := by
  have hX' := List.pairwise_append.1 hX
  have hY' := List.pairwise_append.1 hY
  refine eq_of_rows key _ _ ?_ (sortK_sorted key _) fun k => ?_
  · refine List.pairwise_append.2 ⟨sortK_sorted key _, sortK_sorted key _, fun a ha b hb => ?_⟩
    rcases List.mem_append.1 ((sortK_mem key).1 ha) with ha | ha <;> rcases List.mem_append.1 ((sortK_mem key).1 hb) with hb | hb
    · exact hX'.2.2 a ha b hb
    · exact h2 a ha b hb
    · have := h1 a ha b hb; omega
    · exact hY'.2.2 a ha b hb
  · rw [ofK_app, sortK_rows, sortK_rows, sortK_rows, ofK_app, ofK_app, ofK_app, ofK_app, ofK_app]
    have : ofK key k Y1 ++ ofK key k X2 = ofK key k X2 ++ ofK key k Y1 := by
      by_cases hy : ofK key k Y1 = []
      · rw [hy]; simp
      · obtain ⟨y, hy⟩ := List.exists_mem_of_ne_nil _ hy
        obtain ⟨hy1, hy2⟩ := (mem_ofK key).1 hy
        have : ofK key k X2 = [] := ofK_nil_of key fun x hx => by have := h1 y hy1 x hx; omega
        rw [this]; simp
    simp only [List.append_assoc]
    rw [← List.append_assoc (ofK key k Y1), this, List.append_assoc]
theorem SortedK.left {a b : List α} (h : SortedK key (a ++ b)) : SortedK key a := (List.pairwise_append.1 h).1
theorem SortedK.right {a b : List α} (h : SortedK key (a ++ b)) : SortedK key b := (List.pairwise_append.1 h).2.1
end
end Go.Eng
