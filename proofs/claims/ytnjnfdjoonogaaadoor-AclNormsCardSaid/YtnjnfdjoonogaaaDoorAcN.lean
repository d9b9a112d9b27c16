import Derived.Test.YtnjnfdjoonogaaaDoorAcD
set_option linter.unusedVariables false
set_option linter.unusedSimpArgs false
namespace Go.Proofs.Ac
open Go.RowKit Go.Lib Go.Eng Go.Proofs Go.IntWalk
abbrev leA (a b : Ac) : Prop := ltA b a = false
def ky (a : Ac) : Int × Int := (a.1, a.2.1)
theorem cmp_facts (a b : Ac) : (cmpA a b < 0 ↔ a.1 < b.1 ∨ (a.1 = b.1 ∧ a.2.1 < b.2.1)) ∧ (cmpA a b = 0 ↔ a.1 = b.1 ∧ a.2.1 = b.2.1) := by
  unfold cmpA cmpI
  constructor <;> (repeat' split) <;> omega
theorem ltA_iff (a b : Ac) : ltA a b = true ↔ a.1 < b.1 ∨ (a.1 = b.1 ∧ a.2.1 < b.2.1) := by rw [← ltA_neg]; exact (cmp_facts a b).1
theorem leA_iff (a b : Ac) : leA a b ↔ ¬ (b.1 < a.1 ∨ (b.1 = a.1 ∧ b.2.1 < a.2.1)) := by
  unfold leA
  rw [← ltA_iff, Bool.not_eq_true]
theorem ky_iff (a b : Ac) : ky a = ky b ↔ a.1 = b.1 ∧ a.2.1 = b.2.1 := by unfold ky; rw [Prod.mk.injEq]
theorem leA_of_lt {a b : Ac} (h : ltA a b = true) : leA a b := by rw [leA_iff]; rw [ltA_iff] at h; omega
theorem leA_trans {a b c : Ac} (h1 : leA a b) (h2 : leA b c) : leA a c := by rw [leA_iff] at *; omega
theorem leA_antisymm {a b : Ac} (h1 : leA a b) (h2 : leA b a) : ky a = ky b := by rw [leA_iff] at *; rw [ky_iff]; omega
theorem leA_key {a b c : Ac} (h : leA a b) (e : ky b = ky c) : leA a c := by rw [leA_iff] at *; rw [ky_iff] at e; omega
theorem ltA_key {a b : Ac} (h : ltA a b = true) (e : ky a = ky b) : False := by rw [ltA_iff] at h; rw [ky_iff] at e; omega
theorem insR_pair (x : Ac) (m : List Ac) (h : m.Pairwise leA) : (insR ltA x m).Pairwise leA := by
  have hs : m = (m.reverse.dropWhile (ltA x)).reverse ++ (m.reverse.takeWhile (ltA x)).reverse := by
    rw [← List.reverse_append, List.takeWhile_append_dropWhile, List.reverse_reverse]
  have h1 : ∀ b ∈ (m.reverse.takeWhile (ltA x)).reverse, leA x b := fun b hb => leA_of_lt (by
    have := List.all_takeWhile (p := ltA x) (l := m.reverse)
    exact List.all_eq_true.1 this b (List.mem_reverse.1 hb))
  have h2 : ∀ a, (m.reverse.dropWhile (ltA x)).reverse.getLast? = some a → leA a x := fun a ha => by
    rw [List.getLast?_reverse] at ha
    have := List.head?_dropWhile_not (ltA x) m.reverse
    rw [ha] at this
    simpa using this
  unfold insR
  generalize (m.reverse.dropWhile (ltA x)).reverse = A at *
  generalize (m.reverse.takeWhile (ltA x)).reverse = B at *
  subst hs
  rw [List.pairwise_append] at h ⊢
  refine ⟨h.1, List.pairwise_cons.2 ⟨h1, h.2.1⟩, fun a ha b hb => ?_⟩
  have hax : leA a x := by
    rcases List.eq_nil_or_concat A with rfl | ⟨A', y, rfl⟩
    · cases ha
    · rw [List.concat_eq_append] at *
      have hy := h2 y (by simp)
      rcases List.mem_append.1 ha with ha | ha
      · exact leA_trans ((List.pairwise_append.1 h.1).2.2 a ha y (List.mem_singleton_self _)) hy
      · rw [List.mem_singleton.1 ha]; exact hy
  rcases List.mem_cons.1 hb with rfl | hb
  · exact hax
  · exact h.2.2 a ha b hb
theorem foldl_pair : ∀ (l m : List Ac), m.Pairwise leA → (l.foldl (fun m x => insR ltA x m) m).Pairwise leA
  | [], _, h => h
  | x :: l, m, h => foldl_pair l _ (insR_pair x m h)
theorem sortR_pair (l : List Ac) : (sortR ltA l).Pairwise leA := foldl_pair l [] .nil
theorem getD_eq {α : Type} [Inhabited α] {l : List α} {i : Nat} (h : i < l.length) : l.getD i default = l[i] := by rw [List.getD_eq_getElem?_getD, List.getElem?_eq_getElem h]; rfl
theorem twN_mono {s : List Ac} {j k : Nat} (h : j ≤ k) (h1 : twN s j = true) : twN s k = true := by
  induction k with
  | zero => have : j = 0 := by omega
            subst this; exact h1
  | succ k ih =>
    by_cases e : j = k + 1
    · subst e; exact h1
    · rw [twN, ih (by omega), Bool.true_or]
theorem twN_false {s : List Ac} {n : Nat} (h : twN s n = false) (j : Nat) (h0 : 0 < j) (hj : j < n) : cmpA (s.getD (j - 1) default) (s.getD j default) ≠ 0 := fun e => by
  have : twN s (j + 1) = true := by rw [twN, e]; simp [h0]
  rw [twN_mono (show j + 1 ≤ n by omega) this] at h
  cases h
theorem twN_true {s : List Ac} : ∀ {n : Nat}, twN s n = true → ∃ j, 0 < j ∧ j < n ∧ cmpA (s.getD (j - 1) default) (s.getD j default) = 0
  | n + 1, h => by
    rw [twN, Bool.or_eq_true] at h
    rcases h with h | h
    · obtain ⟨j, h1, h2, h3⟩ := twN_true h
      exact ⟨j, h1, by omega, h3⟩
    · simp only [Bool.and_eq_true, decide_eq_true_eq] at h
      exact ⟨n, h.1, by omega, h.2⟩
theorem strict_of {s : List Ac} (h : s.Pairwise leA) (ht : twN s s.length = false) : s.Pairwise (fun a b => ltA a b = true) := by
  rw [List.pairwise_iff_getElem] at h ⊢
  intro i j hi hj hij
  cases hq : ltA s[i] s[j] with
  | true => rfl
  | false =>
    exfalso
    have e : ky s[i] = ky s[j] := leA_antisymm (h i j hi hj hij) hq
    refine twN_false ht (i + 1) (by omega) (by omega) ?_
    rw [Nat.add_sub_cancel, getD_eq hi, getD_eq (show i + 1 < s.length by omega), (cmp_facts _ _).2, ← ky_iff]
    have a1 := h i (i + 1) hi (by omega) (by omega)
    by_cases e1 : i + 1 = j
    · subst e1; exact e
    · exact leA_antisymm a1 (leA_key (h (i + 1) j (by omega) hj (by omega)) e.symm)
def namesN (l : List Ac) : Prop := (l.map ky).Nodup
theorem namesN_of_strict {s : List Ac} (h : s.Pairwise (fun a b => ltA a b = true)) : namesN s := by
  unfold namesN List.Nodup
  rw [List.pairwise_map]
  exact h.imp fun {a b} q e => ltA_key q e
theorem namesN_perm {s l : List Ac} (h : s.Perm l) : namesN s ↔ namesN l := (h.map ky).nodup_iff
theorem tw_of_names {s : List Ac} (h : namesN s) : twN s s.length = false := by
  cases q : twN s s.length with
  | false => rfl
  | true =>
    obtain ⟨j, h0, hj, e⟩ := twN_true q
    rw [getD_eq (show j - 1 < s.length by omega), getD_eq hj, (cmp_facts _ _).2, ← ky_iff] at e
    unfold namesN List.Nodup at h
    rw [List.pairwise_map, List.pairwise_iff_getElem] at h
    exact absurd e (h (j - 1) j (by omega) hj (by omega))
theorem uniq {s t : List Ac} (hp : s.Perm t) (h1 : s.Pairwise (fun a b => ltA a b = true)) (h2 : t.Pairwise (fun a b => ltA a b = true)) : s = t := by
  refine List.Perm.eq_of_pairwise (le := fun a b => ltA a b = true) (fun a b _ _ q1 q2 => ?_) h1 h2 hp
  exfalso
  rw [ltA_iff] at q1 q2
  omega
theorem norm_alt {l : List Ac} (hok : ∀ a ∈ l, aceOk a) : (¬ namesN l ∧ norm l = ([], 6)) ∨ (namesN l ∧ (sortR ltA l).Pairwise (fun a b => ltA a b = true) ∧
    norm l = if 16 < l.length then ([], 13) else if ¬ mayA (sortR ltA l) then ([], 7) else (sortR ltA l, 0)) := by
  by_cases h : namesN l
  · right
    have q := tw_of_names ((namesN_perm (sortR_perm (lt := ltA) l)).2 h)
    refine ⟨h, strict_of (sortR_pair l) q, ?_⟩
    rw [sortR_len] at q
    unfold norm
    rw [if_neg (fun q => q hok), if_neg (by rw [q]; decide)]
  · left
    refine ⟨h, ?_⟩
    unfold norm
    rw [if_neg (fun q => q hok), if_pos]
    cases q : twN (sortR ltA l) l.length with
    | true => rfl
    | false =>
      rw [← sortR_len (lt := ltA) l] at q
      exact absurd ((namesN_perm (sortR_perm l)).1 (namesN_of_strict (strict_of (sortR_pair l) q))) h
theorem norm_rev (l : List Ac) : norm l.reverse = norm l := by
  by_cases hok : ∀ a ∈ l, aceOk a
  · have hokr : ∀ a ∈ l.reverse, aceOk a := fun a ha => hok a (List.mem_reverse.1 ha)
    have hn : namesN l.reverse ↔ namesN l := namesN_perm (List.reverse_perm l)
    rcases norm_alt hok with ⟨h1, h2⟩ | ⟨h1, h2, h3⟩
    · rcases norm_alt hokr with ⟨g1, g2⟩ | ⟨g1, _⟩
      · rw [g2, h2]
      · exact absurd (hn.1 g1) h1
    · rcases norm_alt hokr with ⟨g1, _⟩ | ⟨g1, g2, g3⟩
      · exact absurd (hn.2 h1) g1
      · rw [h3, g3, uniq (((sortR_perm l.reverse).trans (List.reverse_perm l)).trans (sortR_perm l).symm) g2 h2, List.length_reverse]
  · have hokr : ¬ ∀ a ∈ l.reverse, aceOk a := fun q => hok fun a ha => q a (List.mem_reverse.2 ha)
    unfold norm
    rw [if_pos hok, if_pos hokr]
theorem norm_good {l : List Ac} (h : (norm l).2 = 0) : (norm l).1.length = l.length ∧ mayA (norm l).1 ∧ norm (norm l).1 = norm l := by
  by_cases hok : ∀ a ∈ l, aceOk a
  · rcases norm_alt hok with ⟨h1, h2⟩ | ⟨h1, h2, h3⟩
    · rw [h2] at h; exact absurd h (by decide)
    · have hs : (sortR ltA l).length = l.length := sortR_len l
      by_cases h16 : 16 < l.length
      · rw [h3, if_pos h16] at h; exact absurd h (by decide)
      · rw [if_neg h16] at h3
        by_cases hm : ¬ mayA (sortR ltA l)
        · rw [h3, if_pos hm] at h; exact absurd h (by decide)
        · rw [if_neg hm] at h3
          have hm' := Decidable.not_not.1 hm
          rw [h3]
          refine ⟨hs, hm', ?_⟩
          have hoks : ∀ a ∈ sortR ltA l, aceOk a := fun a ha => hok a ((sortR_perm l).mem_iff.1 ha)
          rcases norm_alt hoks with ⟨g1, _⟩ | ⟨g1, g2, g3⟩
          · exact absurd ((namesN_perm (sortR_perm l)).2 h1) g1
          · have e : sortR ltA (sortR ltA l) = sortR ltA l := uniq (sortR_perm _) g2 h2
            rw [e, hs, if_neg h16, if_neg hm] at g3
            exact g3
  · unfold norm at h
    rw [if_pos hok] at h; exact absurd h (by decide)
theorem norm_bad {l : List Ac} (h : (norm l).2 ≠ 0) : (norm l).1 = [] := by
  unfold norm at h ⊢
  repeat' split
  all_goals first | rfl | (rename_i h1 h2 h3 h4; exfalso; apply h; rw [if_neg h1, if_neg h2, if_neg h3, if_neg h4])
end Go.Proofs.Ac
