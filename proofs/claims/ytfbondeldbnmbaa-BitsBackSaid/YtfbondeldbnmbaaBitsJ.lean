import Derived.Test.YtfbondeldbnmbaaBitsI
set_option linter.unusedVariables false
set_option linter.unusedSimpArgs false
namespace Go.Proofs.Bits
open Go.RowKit Go.Lib Go.Eng Go.Proofs Go.IntWalk
/-- Bits, packed. -/
def pk (l : List Int) : List Int := packN l ((l.length + 7) / 8) l.length
theorem pk_len (l : List Int) : (pk l).length = (l.length + 7) / 8 := packN_len ..
theorem pk_in (l : List Int) : ∀ x ∈ pk l, 0 ≤ x ∧ x < 256 := packN_in _ _ _
theorem pk_ok (l : List Int) : okO (pk l) l.length := ⟨pk_len l, pk_in l⟩
theorem packN_more (l : List Int) (m : Nat) : ∀ i, i ≤ 8 * m → packN l (m + 1) i = packN l m i ++ [0]
  | 0, _ => by simp [packN, List.replicate_succ']
  | i + 1, h => by
    have hl := packN_len l m i
    unfold packN
    rw [packN_more l m i (by omega)]
    rw [List.set_append_left _ _ (by omega)]
    simp only [List.getD_eq_getElem?_getD]
    rw [List.getElem?_append_left (by omega)]
theorem packN_front (l : List Int) (x : Int) (m : Nat) : ∀ i, i ≤ l.length → packN (l ++ [x]) m i = packN l m i
  | 0, _ => rfl
  | i + 1, h => by
    unfold packN
    rw [packN_front l x m i (by omega)]
    simp only [List.getD_eq_getElem?_getD]
    rw [List.getElem?_append_left (by omega)]
theorem packN_grow (l : List Int) : packN l ((l.length + 1 + 7) / 8) l.length = grow (pk l) l.length := by
  unfold grow pk
  split
  · rename_i h
    rw [← packN_more _ _ _ (by omega)]
    congr 1; omega
  · congr 1; omega
theorem bitI_01 (n j : Nat) : bitI n j = 0 ∨ bitI n j = 1 := by
  unfold bitI; rw [Nat.and_one_is_mod]; omega
theorem shl01 (x : Nat) (hx : x < 2) (s : Nat) (hs : s < 8) : (x <<< s) % 256 = x <<< s := by
  apply Nat.mod_eq_of_lt
  rw [Nat.shiftLeft_eq]
  have : 2 ^ s ≤ 2 ^ 7 := Nat.pow_le_pow_right (by omega) (by omega)
  have := Nat.mul_le_mul (show x ≤ 1 by omega) this
  omega
theorem put1_pk (n j : Nat) (l : List Int) : put1 n j (pk l) l.length = pk (l ++ [bitI n j]) := by
  have e : pk (l ++ [bitI n j]) = packN (l ++ [bitI n j]) ((l.length + 1 + 7) / 8) (l.length + 1) := by unfold pk; rw [List.length_append]; rfl
  rw [e]
  unfold packN
  rw [packN_front _ _ _ _ (Nat.le_refl _), packN_grow]
  unfold put1
  congr 2
  have e1 : (l ++ [bitI n j]).getD l.length 0 = bitI n j := by simp [List.getD_eq_getElem?_getD]
  rw [e1, shl01 _ (by have := bitI_01 n j; omega) _ (by omega)]
  unfold bitI
  rw [Int.toNat_natCast]
theorem putN_pk (n : Nat) : ∀ (j : Nat) (l : List Int), putN n j (pk l) l.length = pk (l ++ bitsI n j)
  | 0, l => by simp [putN, bitsI]
  | j + 1, l => by
    unfold putN bitsI
    rw [put1_pk]
    have := putN_pk n j (l ++ [bitI n j])
    rw [List.length_append] at this
    rw [List.length_singleton] at this
    rw [this, List.append_assoc]; rfl
theorem bitsI_01 (n : Nat) : ∀ j, ∀ x ∈ bitsI n j, x = 0 ∨ x = 1
  | 0, x, h => by simp [bitsI] at h
  | j + 1, x, h => by
    rcases List.mem_cons.1 h with rfl | h
    · exact bitI_01 n j
    · exact bitsI_01 n j x h

theorem bitAt_tb (b : List Int) (a : Nat) : bitAt b a = if ((b.getD (a / 8) 0).toNat).testBit (7 - a % 8) then 1 else 0 := by
  unfold bitAt
  rw [Nat.and_one_is_mod, Nat.testBit_eq_decide_div_mod_eq, Nat.shiftRight_eq_div_pow]
  generalize (b.getD (a / 8) 0).toNat / 2 ^ (7 - a % 8) = y
  have := Nat.mod_two_eq_zero_or_one y
  rcases this with h | h <;> simp [h]
theorem tb01 (x s q : Nat) (hx : x < 2) : (x <<< s).testBit q = (decide (q = s) && decide (x = 1)) := by
  rw [Nat.testBit_shiftLeft]
  have h01 : x = 0 ∨ x = 1 := by omega
  rcases h01 with rfl | rfl
  · simp
  · by_cases h : q = s
    · subst h; simp
    · by_cases h2 : s ≤ q
      · have : Nat.testBit 1 (q - s) = false := Nat.testBit_lt_two_pow (Nat.one_lt_two_pow (by omega))
        simp [h, this]
      · simp [h, h2]
theorem bitAt_packN (l : List Int) (h01 : ∀ x ∈ l, x = 0 ∨ x = 1) (m a : Nat) (ha : a < 8 * m) : ∀ i, i ≤ 8 * m → i ≤ l.length → bitAt (packN l m i) a = if a < i then (l.getD a 0).toNat else 0
  | 0, _, _ => by
    rw [bitAt_tb]
    simp [packN, List.getD_eq_getElem?_getD, List.getElem?_replicate]
    split <;> simp
  | i + 1, h, hl => by
    have ih := bitAt_packN l h01 m a ha i (by omega) (by omega)
    have hlen := packN_len l m i
    have hx : (l.getD i 0).toNat < 2 := by
      rw [List.getD_eq_getElem?_getD, List.getElem?_eq_getElem (by omega)]
      rcases h01 _ (List.getElem_mem (show i < l.length by omega)) with h | h <;> simp [h]
    rw [bitAt_tb] at ih ⊢
    unfold packN
    by_cases hd : a / 8 = i / 8
    · rw [hd] at ih ⊢
      rw [List.getD_eq_getElem?_getD, List.getElem?_set_self (by omega)]
      simp only [Option.getD_some, Int.toNat_natCast]
      rw [shl01 _ hx _ (by omega)]
      simp only [Nat.testBit_or, tb01 _ _ _ hx]
      by_cases hai : a = i
      · subst hai
        have hf : ¬ (a < a) := by omega
        rw [if_neg hf] at ih
        have hz : ((packN l m a).getD (a / 8) 0).toNat.testBit (7 - a % 8) = false := by
          revert ih; split <;> simp_all
        simp only [hz]
        have h2 : (l.getD a 0).toNat = 0 ∨ (l.getD a 0).toNat = 1 := by omega
        generalize (l.getD a 0).toNat = y at h2 ⊢
        rcases h2 with rfl | rfl <;> simp
      · have hne : ¬ (7 - a % 8 = 7 - i % 8) := by omega
        simp only [hne, decide_false, Bool.false_and, Bool.or_false]
        rw [ih]
        have : (a < i) = (a < i + 1) := by apply propext; omega
        simp only [this]
    · rw [List.getD_eq_getElem?_getD, List.getElem?_set_ne (by omega), ← List.getD_eq_getElem?_getD, ih]
      have : (a < i) = (a < i + 1) := by apply propext; omega
      simp only [this]
theorem bitAt_pk (l : List Int) (h01 : ∀ x ∈ l, x = 0 ∨ x = 1) (a : Nat) (ha : a < 8 * (pk l).length) : bitAt (pk l) a = if a < l.length then (l.getD a 0).toNat else 0 := by
  rw [pk_len] at ha
  exact bitAt_packN l h01 _ a ha _ (by omega) (Nat.le_refl _)

/-- The number that bits are. -/
theorem getN_bits (n : Nat) (pre post : List Int) (h01 : ∀ x ∈ pre, x = 0 ∨ x = 1) (h02 : ∀ x ∈ post, x = 0 ∨ x = 1) (k : Nat) (hk : k ≤ 32) : ∀ i, i ≤ k → getN (pk (pre ++ bitsI n k ++ post)) pre.length i = (n >>> (k - i)) % 2 ^ i
  | 0, _ => by simp [getN, Nat.mod_one]
  | i + 1, h => by
    unfold getN
    rw [getN_bits n pre post h01 h02 k hk i (by omega)]
    have hb : ∀ j q, q < j → (bitsI n j).getD q 0 = bitI n (j - 1 - q) := by
      intro j
      induction j with
      | zero => intro q hq; omega
      | succ j ih =>
        intro q hq
        cases q with
        | zero => simp [bitsI]
        | succ q => simp only [bitsI, List.getD_cons_succ]; rw [ih q (by omega)]; congr 1; omega
    have hlen : (pre ++ bitsI n k ++ post).length = pre.length + k + post.length := by simp [bitsI_len]; omega
    rw [bitAt_pk _ (by
      intro x hx
      rcases List.mem_append.1 hx with hx | hx
      · rcases List.mem_append.1 hx with hx | hx
        · exact h01 x hx
        · exact bitsI_01 n k x hx
      · exact h02 x hx) _ (by rw [pk_len, hlen]; omega), if_pos (by rw [hlen]; omega)]
    have e : (pre ++ bitsI n k ++ post).getD (pre.length + i) 0 = bitI n (k - 1 - i) := by
      rw [List.getD_eq_getElem?_getD, List.append_assoc, List.getElem?_append_right (by omega), List.getElem?_append_left (by rw [bitsI_len]; omega)]
      rw [show pre.length + i - pre.length = i by omega, ← List.getD_eq_getElem?_getD]
      exact hb k i (by omega)
    rw [e]
    have e2 : (bitI n (k - 1 - i)).toNat = (n >>> (k - 1 - i)) % 2 := by unfold bitI; rw [Nat.and_one_is_mod, Int.toNat_natCast]
    rw [e2]
    have e3 : k - i = (k - 1 - i) + 1 := by omega
    have e4 : k - (i + 1) = k - 1 - i := by omega
    rw [e3, e4, Nat.shiftRight_succ]
    generalize n >>> (k - 1 - i) = y
    have hp : (2 : Nat) ^ i ≤ 2 ^ 31 := Nat.pow_le_pow_right (by omega) (by omega)
    have hy : y / 2 % 2 ^ i < 2 ^ i := Nat.mod_lt _ (Nat.two_pow_pos i)
    rw [Nat.shiftLeft_eq, Nat.pow_one, Nat.mod_eq_of_lt (a := y / 2 % 2 ^ i * 2) (by omega)]
    have := Nat.two_pow_add_eq_or_of_lt (i := 1) (b := y % 2) (by omega) (y / 2 % 2 ^ i)
    have e5 : y % 2 ^ (i + 1) = y % 2 + 2 * (y / 2 % 2 ^ i) := by rw [Nat.pow_succ', Nat.mod_mul]
    rw [show y / 2 % 2 ^ i * 2 = 2 ^ 1 * (y / 2 % 2 ^ i) by omega, ← this, e5]
    omega
theorem getN_rest (l : List Int) (h01 : ∀ x ∈ l, x = 0 ∨ x = 1) : ∀ i, l.length + i ≤ 8 * (pk l).length → getN (pk l) l.length i = 0
  | 0, _ => rfl
  | i + 1, h => by
    unfold getN
    rw [getN_rest l h01 i (by omega), bitAt_pk l h01 _ (by omega), if_neg (by omega)]
    rfl
end Go.Proofs.Bits
