/-
  The engine, part T: what the machine's arithmetic comes to on natural numbers.
-/
import Derived.Test.YthbonnlhoaeflaaEngS
set_option linter.unusedVariables false
set_option linter.unusedSimpArgs false
namespace Go.Eng
open Go.RowKit Go.Lib

theorem wrapU (k : IntKind) (hk : k.signed = false) (n : Nat) (h : n < 2 ^ k.bits) : k.wrap (n : Int) = n := by
  have h' : (n : Int) < (2 : Int) ^ k.bits := by exact_mod_cast h
  unfold IntKind.wrap
  simp only [hk, Bool.false_and, Bool.false_eq_true, if_false]
  exact Int.emod_eq_of_lt (by omega) h'

theorem bvN (w n : Nat) (h : n < 2 ^ w) : (BitVec.ofInt w (n : Int)).toNat = n := by
  simp [BitVec.toNat_ofInt]
  exact Nat.mod_eq_of_lt h

theorem andU (k : IntKind) (hk : k.signed = false) (a b : Nat) (ha : a < 2 ^ k.bits) (hb : b < 2 ^ k.bits) : k.wrap ((BitVec.ofInt k.bits (a : Int) &&& BitVec.ofInt k.bits (b : Int)).toNat : Int) = ((a &&& b : Nat) : Int) := by
  rw [BitVec.toNat_and, bvN _ _ ha, bvN _ _ hb]
  exact wrapU k hk _ (Nat.lt_of_le_of_lt Nat.and_le_left ha)
theorem orU (k : IntKind) (hk : k.signed = false) (a b : Nat) (ha : a < 2 ^ k.bits) (hb : b < 2 ^ k.bits) : k.wrap ((BitVec.ofInt k.bits (a : Int) ||| BitVec.ofInt k.bits (b : Int)).toNat : Int) = ((a ||| b : Nat) : Int) := by
  rw [BitVec.toNat_or, bvN _ _ ha, bvN _ _ hb]
  exact wrapU k hk _ (Nat.or_lt_two_pow ha hb)
theorem xorU (k : IntKind) (hk : k.signed = false) (a b : Nat) (ha : a < 2 ^ k.bits) (hb : b < 2 ^ k.bits) : k.wrap ((BitVec.ofInt k.bits (a : Int) ^^^ BitVec.ofInt k.bits (b : Int)).toNat : Int) = ((a ^^^ b : Nat) : Int) := by
  rw [BitVec.toNat_xor, bvN _ _ ha, bvN _ _ hb]
  exact wrapU k hk _ (Nat.xor_lt_two_pow ha hb)
theorem shrU (a s : Nat) : ((a : Int).fdiv (2 ^ s)) = ((a >>> s : Nat) : Int) := by
  rw [Int.fdiv_eq_ediv_of_nonneg _ (by exact_mod_cast Nat.zero_le _), Nat.shiftRight_eq_div_pow]
  exact_mod_cast rfl
theorem shlU (k : IntKind) (hk : k.signed = false) (a s : Nat) : k.wrap ((a : Int) * 2 ^ s) = (((a <<< s) % 2 ^ k.bits : Nat) : Int) := by
  have e : (a : Int) * 2 ^ s = ((a <<< s : Nat) : Int) := by rw [Nat.shiftLeft_eq]; exact_mod_cast rfl
  rw [e]
  unfold IntKind.wrap
  simp only [hk, Bool.false_and, Bool.false_eq_true, if_false]
  exact_mod_cast rfl
theorem wrapM (k : IntKind) (hk : k.signed = false) (n : Nat) : k.wrap (n : Int) = ((n % 2 ^ k.bits : Nat) : Int) := by
  unfold IntKind.wrap
  simp only [hk, Bool.false_and, Bool.false_eq_true, if_false]
  exact_mod_cast rfl
end Go.Eng
