import Derived.Test.YthbonnlhoaeflaaMeF
set_option linter.unusedVariables false
set_option linter.unusedSimpArgs false
namespace Go.Proofs.Me
open Go.RowKit Go.Lib Go.Eng Go.Proofs Go.IntWalk
abbrev leA (a b : At) : Prop := ltA b a = false
theorem leA_of_lt {a b : At} (h : ltA a b = true) : leA a b := sLt_asymm h
theorem leA_trans {a b c : At} (h1 : leA a b) (h2 : leA b c) : leA a c := by
  cases h : ltA c a with
  | false => exact h
  | true =>
    have h1' : sLt b.1 a.1 = false := h1
    have h2' : sLt c.1 b.1 = false := h2
    have h' : sLt c.1 a.1 = true := h
    cases q : sLt a.1 b.1 with
    | true => have := sLt_trans h' q; rw [h2'] at this; cases this
    | false => have e := sLt_total q h1'; rw [e, h2'] at h'; cases h'
theorem leA_antisymm {a b : At} (h1 : leA a b) (h2 : leA b a) : a.1 = b.1 := sLt_total h2 h1
theorem insR_pair (x : At) (m : List At) (h : m.Pairwise leA) : (insR ltA x m).Pairwise leA := by
  have hs : m = (m.reverse.dropWhile (ltA x)).reverse ++ (m.reverse.takeWhile (ltA x)).reverse := by
    rw [← List.reverse_append, List.takeWhile_append_dropWhile, List.reverse_reverse]
  have h1 : ∀ b ∈ (m.reverse.takeWhile (ltA x)).reverse, leA x b := fun b hb => leA_of_lt (by
    have := List.all_takeWhile (p := ltA x) (l := m.reverse)
    exact List.all_eq_true.1 this b (List.mem_reverse.1 hb))
  have h2 : ∀ a, (m.reverse.dropWhile (ltA x)).reverse.getLast? = some a → leA a x := fun a ha => by
    rw [List.getLast?_reverse] at ha
    have := List.head?_dropWhile_not (ltA x) m.reverse
    rw [ha] at this
    simpa using this
  unfold insR
  generalize (m.reverse.dropWhile (ltA x)).reverse = A at *
  generalize (m.reverse.takeWhile (ltA x)).reverse = B at *
  subst hs
  rw [List.pairwise_append] at h ⊢
  refine ⟨h.1, List.pairwise_cons.2 ⟨h1, h.2.1⟩, fun a ha b hb => ?_⟩
  have hax : leA a x := by
    rcases List.eq_nil_or_concat A with rfl | ⟨A', y, rfl⟩
    · cases ha
    · rw [List.concat_eq_append] at *
      have hy := h2 y (by simp)
      rcases List.mem_append.1 ha with ha | ha
      · exact leA_trans ((List.pairwise_append.1 h.1).2.2 a ha y (List.mem_singleton_self _)) hy
      · rw [List.mem_singleton.1 ha]; exact hy
  rcases List.mem_cons.1 hb with rfl | hb
  · exact hax
  · exact h.2.2 a ha b hb
theorem foldl_pair : ∀ (l m : List At), m.Pairwise leA → (l.foldl (fun m x => insR ltA x m) m).Pairwise leA
  | [], _, h => h
  | x :: l, m, h => foldl_pair l _ (insR_pair x m h)
theorem sortR_pair (l : List At) : (sortR ltA l).Pairwise leA := foldl_pair l [] .nil
theorem getD_eq {α : Type} [Inhabited α] {l : List α} {i : Nat} (h : i < l.length) : l.getD i default = l[i] := by rw [List.getD_eq_getElem?_getD, List.getElem?_eq_getElem h]; rfl
theorem twN_mono {s : List At} {j k : Nat} (h : j ≤ k) (h1 : twN s j = true) : twN s k = true := by
  induction k with
  | zero => have : j = 0 := by omega
            subst this; exact h1
  | succ k ih =>
    by_cases e : j = k + 1
    · subst e; exact h1
    · rw [twN, ih (by omega), Bool.true_or]
theorem twN_false {s : List At} {n : Nat} (h : twN s n = false) (j : Nat) (h0 : 0 < j) (hj : j < n) : (s.getD (j - 1) default).1 ≠ (s.getD j default).1 := fun e => by
  have : twN s (j + 1) = true := by rw [twN, e]; simp [h0]
  rw [twN_mono (show j + 1 ≤ n by omega) this] at h
  cases h
theorem twN_true {s : List At} : ∀ {n : Nat}, twN s n = true → ∃ j, 0 < j ∧ j < n ∧ (s.getD (j - 1) default).1 = (s.getD j default).1
  | n + 1, h => by
    rw [twN, Bool.or_eq_true] at h
    rcases h with h | h
    · obtain ⟨j, h1, h2, h3⟩ := twN_true h
      exact ⟨j, h1, by omega, h3⟩
    · simp only [Bool.and_eq_true, decide_eq_true_eq] at h
      exact ⟨n, h.1, by omega, h.2⟩
theorem strict_of {s : List At} (h : s.Pairwise leA) (ht : twN s s.length = false) : s.Pairwise (fun a b => ltA a b = true) := by
  rw [List.pairwise_iff_getElem] at h ⊢
  intro i j hi hj hij
  cases hq : ltA s[i] s[j] with
  | true => rfl
  | false =>
    exfalso
    have e : s[i].1 = s[j].1 := leA_antisymm (h i j hi hj hij) hq
    refine twN_false ht (i + 1) (by omega) (by omega) ?_
    rw [Nat.add_sub_cancel, getD_eq hi, getD_eq (show i + 1 < s.length by omega)]
    have a1 := h i (i + 1) hi (by omega) (by omega)
    by_cases e1 : i + 1 = j
    · subst e1; exact e
    · have a2 := h (i + 1) j (by omega) hj (by omega)
      refine leA_antisymm a1 ?_
      have a3 : sLt s[j].1 s[i + 1].1 = false := a2
      rw [← e] at a3
      exact a3
def namesN (l : List At) : Prop := (l.map Prod.fst).Nodup
theorem namesN_of_strict {s : List At} (h : s.Pairwise (fun a b => ltA a b = true)) : namesN s := by
  unfold namesN List.Nodup
  rw [List.pairwise_map]
  exact h.imp fun {a b} q e => by
    have q' : sLt a.1 b.1 = true := q
    rw [e, sLt_irr] at q'; cases q'
theorem namesN_perm {s l : List At} (h : s.Perm l) : namesN s ↔ namesN l := (h.map Prod.fst).nodup_iff
theorem tw_of_names {s : List At} (h : namesN s) : twN s s.length = false := by
  cases q : twN s s.length with
  | false => rfl
  | true =>
    obtain ⟨j, h0, hj, e⟩ := twN_true q
    rw [getD_eq (show j - 1 < s.length by omega), getD_eq hj] at e
    unfold namesN List.Nodup at h
    rw [List.pairwise_map, List.pairwise_iff_getElem] at h
    exact absurd e (h (j - 1) j (by omega) hj (by omega))
theorem norm_dup {l : List At} (hok : ∀ a ∈ l, attrOk a) (h : ¬ namesN l) : norm l = ([], 6) := by
  unfold norm
  rw [if_neg (fun q => q hok), if_pos]
  cases q : twN (sortR ltA l) l.length with
  | true => rfl
  | false =>
    rw [← sortR_len (lt := ltA) l] at q
    exact absurd ((namesN_perm (sortR_perm l)).1 (namesN_of_strict (strict_of (sortR_pair l) q))) h
theorem norm_ok {l : List At} (hok : ∀ a ∈ l, attrOk a) (hl : l.length ≤ 8) (h : namesN l) : norm l = (sortR ltA l, 0) ∧ (sortR ltA l).Pairwise (fun a b => ltA a b = true) := by
  have q := tw_of_names ((namesN_perm (sortR_perm (lt := ltA) l)).2 h)
  refine ⟨?_, strict_of (sortR_pair l) q⟩
  rw [sortR_len] at q
  unfold norm
  rw [if_neg (fun q => q hok), if_neg (by rw [q]; decide), if_neg (by omega)]
theorem uniq {s t : List At} (hp : s.Perm t) (h1 : s.Pairwise (fun a b => ltA a b = true)) (h2 : t.Pairwise (fun a b => ltA a b = true)) : s = t := by
  refine List.Perm.eq_of_pairwise (le := fun a b => ltA a b = true) (fun a b _ _ q1 q2 => ?_) h1 h2 hp
  have q1' : sLt a.1 b.1 = true := q1
  have q2' : sLt b.1 a.1 = true := q2
  rw [sLt_asymm q1'] at q2'; cases q2'
theorem norm_both {l : List At} (hok : ∀ a ∈ l, attrOk a) (hl : l.length ≤ 8) (h : namesN l) : norm l.reverse = norm l := by
  have h1 := norm_ok hok hl h
  have h2 := norm_ok (l := l.reverse) (fun a ha => hok a (List.mem_reverse.1 ha)) (by simpa using hl) ((namesN_perm (List.reverse_perm l)).2 h)
  rw [h1.1, h2.1, uniq (((sortR_perm l.reverse).trans (List.reverse_perm l)).trans (sortR_perm l).symm) h2.2 h1.2]
theorem ok_strict {s : List At} (hok : ∀ a ∈ s, attrOk a) (h : s.Pairwise (fun a b => ltA a b = true)) : okAt s s.length := fun j hj => by
  rw [List.pairwise_iff_getElem] at h
  refine ⟨?_, fun h0 => ?_⟩
  · rw [getD_eq hj]; exact hok _ (List.getElem_mem ..)
  · rw [getD_eq hj, getD_eq (show j - 1 < s.length by omega)]
    exact h (j - 1) j (by omega) hj (by omega)
theorem ok_rev {l : List At} (h1 : okAt l l.length) (h2 : okAt l.reverse l.reverse.length) : l.length < 2 := by
  by_cases h : l.length < 2
  · exact h
  · exfalso
    have a := (h1 1 (by omega)).2 (by omega)
    have b := (h2 (l.length - 1) (by simp; omega)).2 (by omega)
    rw [getD_eq (show 1 - 1 < l.length by omega), getD_eq (show 1 < l.length by omega)] at a
    rw [getD_eq (show l.length - 1 - 1 < l.reverse.length by simp; omega), getD_eq (show l.length - 1 < l.reverse.length by simp; omega), List.getElem_reverse, List.getElem_reverse] at b
    have e1 : l.length - 1 - (l.length - 1 - 1) = 1 := by omega
    have e2 : l.length - 1 - (l.length - 1) = 0 := by omega
    simp only [e1, e2, Nat.sub_self] at a b
    rw [sLt_asymm a] at b; cases b
end Go.Proofs.Me
