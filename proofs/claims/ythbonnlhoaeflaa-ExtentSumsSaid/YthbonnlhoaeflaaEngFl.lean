/-
  The engine: whole numbers as floats: they are held exactly up to 2^53, compared as they are, and given back.
-/
import Derived.Test.YthbonnlhoaeflaaEngZ
set_option linter.unusedVariables false
set_option linter.unusedSimpArgs false
namespace Go.Eng
open Ieee

/-- A whole number as a float. -/
def fl (n : Nat) : Nat := FloatKind.f64.nearest (n : Int)

theorem fl_eq (n : Nat) (h0 : 0 < n) (h : n < 2 ^ 53) : fl n = (n.log2 + 1022) * 2 ^ 52 + n <<< (52 - n.log2) ∧ n.log2 ≤ 52 ∧ 2 ^ 52 ≤ n <<< (52 - n.log2) ∧ n <<< (52 - n.log2) < 2 ^ 53 := by
  have hl : n.log2 ≤ 52 := by have := (Nat.log2_lt (by omega)).2 h; omega
  have hk : n <<< (52 - n.log2) < 2 ^ 53 := by
    rw [Nat.shiftLeft_eq]
    have h1 : n < 2 ^ (n.log2 + 1) := Nat.lt_log2_self
    calc n * 2 ^ (52 - n.log2) < 2 ^ (n.log2 + 1) * 2 ^ (52 - n.log2) := Nat.mul_lt_mul_of_pos_right h1 (Nat.two_pow_pos _)
      _ = 2 ^ 53 := by rw [← Nat.pow_add]; congr 1; omega
  have hk2 : 2 ^ 52 ≤ n <<< (52 - n.log2) := by
    rw [Nat.shiftLeft_eq]
    have h1 : 2 ^ n.log2 ≤ n := Nat.log2_self_le (by omega)
    calc 2 ^ 52 = 2 ^ n.log2 * 2 ^ (52 - n.log2) := by rw [← Nat.pow_add]; congr 1; omega
      _ ≤ n * 2 ^ (52 - n.log2) := Nat.mul_le_mul_right _ h1
  refine ⟨?_, hl, hk2, hk⟩
  have hneg : decide ((n : Int) < 0) = false := decide_eq_false (by omega)
  unfold fl FloatKind.nearest FloatKind.encode Format.write FloatKind.format
  simp only [hneg, Int.natAbs_natCast]
  unfold Format.nearest
  rw [if_neg (by omega)]
  have hp : double.leastPlace = -1074 := by decide
  have hf : (double.fractionBits : Int) = 52 := rfl
  have hb : double.binade = 2 ^ 52 := rfl
  have hi : double.infRung = 2047 * 2 ^ 52 := by decide
  have hlast : max ((0 : Int) + n.log2 - double.fractionBits) double.leastPlace = (n.log2 : Int) - 52 := by rw [hp, hf]; omega
  rw [hlast]
  dsimp only
  have e1 : ((0 : Int) - ((n.log2 : Int) - 52)).toNat = 52 - n.log2 := by omega
  have e2 : ((n.log2 : Int) - 52 - 0).toNat = 0 := by omega
  have e3 : ((n.log2 : Int) - 52 - double.leastPlace).toNat = n.log2 + 1022 := by rw [hp]; omega
  rw [e1, e2, e3, hb, hi]
  have hc : Toward.even.cut false (n <<< (52 - n.log2)) 0 = n <<< (52 - n.log2) := by
    unfold Toward.cut
    simp only [Nat.zero_min, Nat.shiftLeft_zero, Nat.div_one, Nat.mod_one]
    rfl
  rw [hc]
  unfold Format.word
  rw [if_neg (by decide)]
  exact Nat.min_eq_left (by omega)

set_option exponentiation.threshold 2000 in
/-- What a whole number's float stands for. -/
theorem fl_read (n : Nat) (h : n < 2 ^ 53) : ∃ (m : Nat) (d : Nat), FloatKind.f64.decode (fl n) = .number false m (-(d : Int)) ∧ m = n * 2 ^ d ∧ (n = 0 ∨ (d ≤ 52 ∧ m.log2 = 52)) := by
  rcases Nat.eq_zero_or_pos n with rfl | h0
  · exact ⟨0, 1074, by decide +kernel, (Nat.zero_mul _).symm, .inl rfl⟩
  · obtain ⟨e, hl, h1, h2⟩ := fl_eq n h0 h
    refine ⟨n <<< (52 - n.log2), 52 - n.log2, ?_, Nat.shiftLeft_eq .., .inr ⟨by omega, ?_⟩⟩
    · rw [e]
      generalize n <<< (52 - n.log2) = k at *
      generalize n.log2 = L at *
      unfold FloatKind.decode FloatKind.format Format.read
      have hs : double.signWeight = 2 ^ 63 := rfl
      have hb : double.binade = 2 ^ 52 := rfl
      have hi : double.infRung = 2047 * 2 ^ 52 := by decide
      have hp : double.leastPlace = -1074 := by decide
      have e1 : ((L + 1022) * 2 ^ 52 + k) / 2 ^ 63 = 0 := Nat.div_eq_of_lt (by omega)
      have e2 : ((L + 1022) * 2 ^ 52 + k) % 2 ^ 63 = (L + 1022) * 2 ^ 52 + k := Nat.mod_eq_of_lt (by omega)
      simp only [hs, hb, hi, hp, e1, e2]
      rw [if_neg (by omega), if_pos (by omega)]
      have e3 : ((L + 1022) * 2 ^ 52 + k) % 2 ^ 52 = k - 2 ^ 52 := by omega
      have e4 : ((L + 1022) * 2 ^ 52 + k) / 2 ^ 52 = L + 1023 := by omega
      rw [e3, e4]
      have e5 : 2 ^ 52 + (k - 2 ^ 52) = k := by omega
      rw [e5]
      have e6 : (-1074 : Int) + ((L + 1023 - 1 : Nat) : Int) = -((52 - L : Nat) : Int) := by omega
      rw [e6]
      rfl
    · have hne : n <<< (52 - n.log2) ≠ 0 := by have := Nat.two_pow_pos 52; omega
      refine Nat.le_antisymm ?_ ?_
      · have := (Nat.log2_lt hne).2 h2; omega
      · exact (Nat.le_log2 hne).2 h1

theorem shl_pos (m d k : Nat) : m * 2 ^ d * 2 ^ k = m * 2 ^ (d + k) := by rw [Nat.mul_assoc, ← Nat.pow_add]

theorem fl_order (a b : Nat) (ha : a < 2 ^ 53) (hb : b < 2 ^ 53) : FloatKind.f64.format.order (fl a) (fl b) = some (compare a b) := by
  obtain ⟨m, d, h1, h2, _⟩ := fl_read a ha
  obtain ⟨k, e, g1, g2, _⟩ := fl_read b hb
  unfold Format.order
  unfold FloatKind.decode at h1 g1
  rw [h1, g1]
  unfold Datum.order
  simp only
  congr 1
  have hx : signed false m (-(d : Int) - min (-(d : Int)) (-(e : Int))).toNat = ((a * 2 ^ max d e : Nat) : Int) := by
    unfold signed
    rw [if_neg (by decide), Nat.shiftLeft_eq, h2, shl_pos]
    congr 3
    omega
  have hy : signed false k (-(e : Int) - min (-(d : Int)) (-(e : Int))).toNat = ((b * 2 ^ max d e : Nat) : Int) := by
    unfold signed
    rw [if_neg (by decide), Nat.shiftLeft_eq, g2, shl_pos]
    congr 3
    omega
  rw [hx, hy]
  have hpos : 0 < 2 ^ max d e := Nat.two_pow_pos _
  generalize 2 ^ max d e = c at hpos
  have c1 : ((a * c : Nat) : Int) < ((b * c : Nat) : Int) ↔ a < b := by
    rw [Int.ofNat_lt]; exact Nat.mul_lt_mul_right hpos
  have c2 : ((a * c : Nat) : Int) = ((b * c : Nat) : Int) ↔ a = b := by
    rw [Int.ofNat_inj]; exact Nat.mul_left_inj (by omega)
  show compareOfLessAndEq _ _ = compareOfLessAndEq _ _
  unfold compareOfLessAndEq
  simp only [c1, c2]

theorem fl_int (n : Nat) (h : n < 2 ^ 53) : (FloatKind.f64.decode (fl n)).toInt .zero = some (n : Int) := by
  obtain ⟨m, d, h1, h2, h3⟩ := fl_read n h
  rw [h1]
  unfold Datum.toInt Datum.integral
  have e1 : (-(d : Int)).toNat = 0 := by omega
  have e2 : (- -(d : Int)).toNat = d := by omega
  simp only [e1, e2, Nat.shiftLeft_zero]
  have hc : Toward.zero.cut false m d = n := by
    unfold Toward.cut
    simp only [Bool.toNat_false, Nat.add_zero]
    rcases h3 with rfl | ⟨hd, hm⟩
    · rw [h2]; simp
    · have e3 : min d (m.log2 + 2) = d := by omega
      rw [e3, Nat.shiftLeft_eq, Nat.one_mul, h2]
      exact Nat.mul_div_cancel _ (Nat.two_pow_pos _)
  rw [hc]
  unfold signed
  simp
end Go.Eng
