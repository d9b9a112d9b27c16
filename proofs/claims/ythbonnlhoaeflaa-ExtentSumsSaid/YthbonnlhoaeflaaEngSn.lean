/-
  The engine: blocks of a list, sorted; joined in pairs.
-/
import Derived.Test.YthbonnlhoaeflaaEngSm
set_option linter.unusedVariables false
set_option linter.unusedSimpArgs false
namespace Go.Eng
section
variable {α : Type} (key : α → Int)
theorem sort_sort (A B : List α) : sortR (ltK key) (sortR (ltK key) A ++ sortR (ltK key) B) = sortR (ltK key) (A ++ B) :=
  eq_of_rows key _ _ (sortK_sorted key _) (sortK_sorted key _) fun k => by rw [sortK_rows, sortK_rows, ofK_app, ofK_app, sortK_rows, sortK_rows]
/-- The i-th block, sorted. -/
def blk (bs : Nat) (l : List α) (i : Nat) : List α := sortR (ltK key) ((l.drop (bs * i)).take bs)
/-- t blocks from block s on. -/
def blks (bs : Nat) (l : List α) : Nat → Nat → List α
  | _, 0 => []
  | s, t + 1 => blk key bs l s ++ blks bs l (s + 1) t
theorem blk_len {bs : Nat} {l : List α} {i : Nat} (h : bs * (i + 1) ≤ l.length) : (blk key bs l i).length = bs := by
  unfold blk
  rw [sortR_len, List.length_take, List.length_drop]
  have : bs * (i + 1) = bs * i + bs := Nat.mul_succ ..
  omega
theorem blks_snoc (bs : Nat) (l : List α) : ∀ (t s : Nat), blks key bs l s (t + 1) = blks key bs l s t ++ blk key bs l (s + t)
  | 0, s => by simp [blks]
  | t + 1, s => by
    rw [blks, blks_snoc bs l t (s + 1), blks, List.append_assoc]
    congr 3
    omega
theorem blks_len {bs : Nat} {l : List α} : ∀ {t s : Nat}, bs * (s + t) ≤ l.length → (blks key bs l s t).length = bs * t
  | 0, s, _ => rfl
  | t + 1, s, h => by
    have h1 : bs * (s + (t + 1)) = bs * (s + 1) + bs * t := by rw [← Nat.mul_add]; congr 1; omega
    have h2 : bs * (s + 1 + t) = bs * (s + 1) + bs * t := Nat.mul_add ..
    have h3 : bs * (t + 1) = bs * t + bs := Nat.mul_succ ..
    rw [blks, List.length_append, blk_len key (by omega), blks_len (by omega)]
    omega
/-- Two blocks joined are one of twice the length. -/
theorem blk_join (bs : Nat) (l : List α) (s : Nat) : sortR (ltK key) (blk key bs l (2 * s) ++ blk key bs l (2 * s + 1)) = blk key (2 * bs) l s := by
  unfold blk
  rw [sort_sort]
  congr 1
  have h1 : bs * (2 * s + 1) = bs * (2 * s) + bs := Nat.mul_succ ..
  have h2 : 2 * bs * s = bs * (2 * s) := by rw [Nat.mul_comm 2 bs, Nat.mul_assoc]
  rw [h1, h2, ← List.drop_drop]
  have h3 : 2 * bs = bs + bs := by omega
  rw [h3, List.take_add]
theorem last_join (bs : Nat) (l : List α) (s : Nat) : sortR (ltK key) (blk key bs l (2 * s) ++ sortR (ltK key) (l.drop (bs * (2 * s + 1)))) = sortR (ltK key) (l.drop (2 * bs * s)) := by
  unfold blk
  rw [sort_sort]
  congr 1
  have h1 : bs * (2 * s + 1) = bs * (2 * s) + bs := Nat.mul_succ ..
  have h2 : 2 * bs * s = bs * (2 * s) := by rw [Nat.mul_comm 2 bs, Nat.mul_assoc]
  rw [h1, h2, ← List.drop_drop, List.take_append_drop]
theorem last_full (bs : Nat) (l : List α) (s : Nat) (h : l.length ≤ bs * (2 * s + 1)) : blk key bs l (2 * s) ++ sortR (ltK key) (l.drop (bs * (2 * s + 1))) = sortR (ltK key) (l.drop (2 * bs * s)) := by
  have h2 : 2 * bs * s = bs * (2 * s) := by rw [Nat.mul_comm 2 bs, Nat.mul_assoc]
  have h1 : bs * (2 * s + 1) = bs * (2 * s) + bs := Nat.mul_succ ..
  rw [List.drop_of_length_le h, h2]
  unfold blk
  rw [List.take_of_length_le (by rw [List.length_drop]; omega)]
  exact List.append_nil _
/-- The row when blocks of this length are sorted. -/
def rowB (bs : Nat) (l : List α) : List α := blks key bs l 0 (l.length / bs) ++ sortR (ltK key) (l.drop (bs * (l.length / bs)))
theorem rowB_end {bs : Nat} {l : List α} (h0 : 0 < bs) (h : l.length ≤ bs) : rowB key bs l = sortR (ltK key) l := by
  unfold rowB
  by_cases e : l.length = bs
  · rw [e, Nat.div_self h0, Nat.mul_one, List.drop_of_length_le (by omega)]
    simp only [blks, blk, Nat.mul_zero, List.drop_zero, List.append_nil]
    rw [List.take_of_length_le (by omega)]
    exact List.append_nil _
  · rw [Nat.div_eq_of_lt (by omega)]
    rfl
end
end Go.Eng
