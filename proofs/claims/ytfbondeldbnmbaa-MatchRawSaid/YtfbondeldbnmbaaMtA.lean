import Derived.Test.YtfbondeldbnmbaaEngZ
set_option linter.unusedVariables false
set_option linter.unusedSimpArgs false
/-
  The match package, as plain lists: how long two places are alike, the best match, the tokens, what they join to.
-/
namespace Go.Proofs.Mt
open Go.RowKit Go.Lib Go.Eng Go.Proofs Go.IntWalk

/-- How long what begins at two places is alike. -/
def alike (b : List Int) : Nat → Nat → Nat → Nat
  | _, _, 0 => 0
  | x, y, k + 1 => if y < b.length ∧ b.getD x 0 = b.getD y 0 then alike b (x + 1) (y + 1) k + 1 else 0

theorem alike_le (b : List Int) : ∀ k x y, alike b x y k ≤ k
  | 0, _, _ => by simp [alike]
  | k + 1, x, y => by
    unfold alike; split
    · have := alike_le b k (x + 1) (y + 1); omega
    · omega
theorem alike_in (b : List Int) : ∀ k x y, y ≤ b.length → y + alike b x y k ≤ b.length
  | 0, _, _, h => by simpa [alike] using h
  | k + 1, x, y, h => by
    unfold alike; split
    · rename_i hh; have := alike_in b k (x + 1) (y + 1) (by omega); omega
    · omega
theorem alike_eq (b : List Int) : ∀ k x y i, i < alike b x y k → b.getD (x + i) 0 = b.getD (y + i) 0
  | 0, _, _, i, h => by simp [alike] at h
  | k + 1, x, y, i, h => by
    unfold alike at h; split at h
    · rename_i hh
      cases i with
      | zero => exact hh.2
      | succ i =>
        have := alike_eq b k (x + 1) (y + 1) i (by omega)
        rwa [Nat.add_right_comm x, Nat.add_right_comm y] at this
    · omega

def mlen (b : List Int) (at' d : Nat) : Nat := alike b (at' - d) at' 66

/-- The best of the first so many distances. -/
def bst (b : List Int) (at' m : Nat) : Nat → Nat × Nat
  | 0 => (0, m)
  | k + 1 => if (bst b at' m k).2 < mlen b at' (k + 1) then (k + 1, mlen b at' (k + 1)) else bst b at' m k

theorem bst_two (b : List Int) (a : Nat) : ∀ k, ((bst b a 0 k).2 ≤ 2 → bst b a 2 k = (0, 2)) ∧ (3 ≤ (bst b a 0 k).2 → bst b a 2 k = bst b a 0 k ∧ (bst b a 0 k).1 ≠ 0)
  | 0 => by simp [bst]
  | k + 1 => by
    obtain ⟨h1, h2⟩ := bst_two b a k
    unfold bst
    by_cases h : (bst b a 0 k).2 ≤ 2
    · rw [h1 h]
      by_cases g : (bst b a 0 k).2 < mlen b a (k + 1)
      · rw [if_pos g]
        by_cases g2 : 2 < mlen b a (k + 1)
        · rw [if_pos g2]; exact ⟨fun q => by simp only at q; omega, fun _ => ⟨rfl, by simp⟩⟩
        · rw [if_neg g2]; exact ⟨fun _ => rfl, fun q => by simp only at q; omega⟩
      · rw [if_neg g, if_neg (by simp only; omega)]
        exact ⟨fun _ => rfl, fun q => by omega⟩
    · obtain ⟨h3, h4⟩ := h2 (by omega)
      rw [h3]
      by_cases g : (bst b a 0 k).2 < mlen b a (k + 1)
      · rw [if_pos g]; exact ⟨fun q => by simp only at q; omega, fun _ => ⟨rfl, by simp⟩⟩
      · rw [if_neg g]; exact ⟨fun q => by omega, fun _ => ⟨rfl, h4⟩⟩

/-- 'Best', where the place is in the bytes. -/
def best (b : List Int) (a : Nat) : Nat × Nat := if (bst b a 2 (min a 1024)).1 = 0 then (0, 0) else bst b a 2 (min a 1024)
def bestI (b : List Int) (a : Int) : Nat × Nat := if a < 0 ∨ (b.length : Int) ≤ a then (0, 0) else best b a.toNat

theorem best_ref (b : List Int) (a : Nat) : (if (bst b a 0 (min a 1024)).2 < 3 then (0, 0) else bst b a 0 (min a 1024)) = best b a := by
  obtain ⟨h1, h2⟩ := bst_two b a (min a 1024)
  unfold best
  split
  · rw [h1 (by omega)]; rfl
  · obtain ⟨h3, h4⟩ := h2 (by omega)
    rw [h3, if_neg h4]

theorem bst_spec (b : List Int) (a m : Nat) : ∀ k, ((bst b a m k).1 = 0 ∧ (bst b a m k).2 = m ∨ 1 ≤ (bst b a m k).1 ∧ (bst b a m k).1 ≤ k ∧ (bst b a m k).2 = mlen b a (bst b a m k).1 ∧ m < (bst b a m k).2) ∧
    (∀ d, 1 ≤ d → d ≤ k → mlen b a d ≤ (bst b a m k).2) ∧ (∀ d, 1 ≤ d → d < (bst b a m k).1 → mlen b a d < (bst b a m k).2)
  | 0 => by simp [bst]; omega
  | k + 1 => by
    obtain ⟨h1, h2, h3⟩ := bst_spec b a m k
    unfold bst
    split
    · rename_i hlt
      refine ⟨.inr ⟨by simp only; omega, Nat.le_refl _, rfl, by simp only; rcases h1 with h1 | h1 <;> omega⟩, fun d hd hk => ?_, fun d hd hk => ?_⟩
      · by_cases e : d = k + 1
        · subst e; exact Nat.le_refl _
        · have := h2 d hd (by omega); simp only; omega
      · have := h2 d hd (by simp only at hk; omega); simp only; omega
    · rename_i hlt
      refine ⟨by omega, fun d hd hk => ?_, h3⟩
      by_cases e : d = k + 1
      · subst e; omega
      · exact h2 d hd (by omega)

/-- A token: the byte (or -1), how far back, how long. -/
abbrev T := Int × Int × Int
def toks (b : List Int) : Nat → Nat → List T
  | 0, _ => []
  | f + 1, a => if a < b.length then (if (best b a).1 = 0 then (b.getD a 0, 0, 0) :: toks b f (a + 1) else (-1, ((best b a).1 : Int), ((best b a).2 : Int)) :: toks b f (a + (best b a).2)) else []

def may (t : T) : Bool := if t.1 = -1 then decide (1 ≤ t.2.1 ∧ t.2.1 ≤ 1024 ∧ 3 ≤ t.2.2 ∧ t.2.2 ≤ 66) else decide (0 ≤ t.1 ∧ t.1 ≤ 255 ∧ t.2.1 = 0 ∧ t.2.2 = 0)
def again (d : Nat) : Nat → List Int → List Int
  | 0, b => b
  | k + 1, b => again d k (b ++ [b.getD (b.length - d) 0])
def lit (t : T) (b : List Int) : List Int := if 0 ≤ t.1 then b ++ [t.1] else b
/-- 'Join': the bytes and the error. -/
def join (most : Int) : List Int → List T → List Int × Int
  | b, [] => (b, 0)
  | b, t :: l => if may t = false then ([], 1) else if (b.length : Int) < t.2.1 then ([], 2) else if most < b.length + max t.2.2 1 then ([], 13) else join most (again t.2.1.toNat t.2.2.toNat (lit t b)) l
end Go.Proofs.Mt
