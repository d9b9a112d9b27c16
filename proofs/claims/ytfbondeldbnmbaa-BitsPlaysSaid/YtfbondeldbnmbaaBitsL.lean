import Derived.Test.YtfbondeldbnmbaaBitsK
set_option linter.unusedVariables false
set_option linter.unusedSimpArgs false
-- DEFS outH, inH, opR, Int.toNat_natCast, refH, rinH
namespace Go.Proofs.Bits
open Go.RowKit Go.Lib Go.Eng Go.Proofs Go.IntWalk
set_option maxRecDepth 100000
set_option maxHeartbeats 2000000
theorem unpin {P : Program} {f : Nat} {pins pins' : List Nat} {hA : List (Nat × Ob)} {args : List S} {hB : List (Nat × Ob)} {res : S} (h : Eng.Spec P f pins hA args hB res) (hp : ∀ i ∈ pins', i ∈ pins) : Eng.Spec P f pins' hA args hB res := by
  intro w ok lv vs h1 h2 h3
  refine (h w ok lv vs h1 h2 h3).mono fun e w' h => ?_
  obtain ⟨v, ok', lv', e1, e2, e3⟩ := h
  exact ⟨v, ok', lv', e1, e2, e3.os, e3.tape, e3.output, e3.size, e3.block, e3.hp, e3.inj, e3.okl, e3.okn, e3.pv, e3.ph, fun id r hq => e3.pn id r (hp id hq)⟩
/-- Put, whatever it is asked for. -/
def putL (n : Nat) (k : Int) (l : List Int) : List Int := if 0 ≤ k ∧ k ≤ 32 then l ++ bitsI n k.toNat else l
def putE (k : Int) : Int := if 0 ≤ k ∧ k ≤ 32 then 0 else 1
theorem put_any (n : Nat) (k : Int) (l : List Int) (hn : n < 2 ^ 64) (hl : l.length ≤ 2 ^ 20) :
    Eng.Spec Try.prog 13 [1000] (outH (pk l) l.length) [.ptr 1000 0 0 0, .d (.v (.int .u64 n)), .d (.v (.int .i64 k))] (outH (pk (putL n k l)) (putL n k l).length) (.d (.v (.int .i64 (putE k)))) := by
  unfold putL putE
  by_cases h : 0 ≤ k ∧ k ≤ 32
  · obtain ⟨j, rfl⟩ := Int.eq_ofNat_of_zero_le h.1
    rw [if_pos h, if_pos h]
    have hp := put_spec n j l.length (pk l) hn (by omega) (by omega) (pk_ok _)
    rw [putN_pk] at hp
    have e : l.length + j = (l ++ bitsI n ((j : Nat) : Int).toNat).length := by simp [bitsI_len]
    rw [e] at hp
    exact hp
  · rw [if_neg h, if_neg h]
    exact unpin (put_err n (pk l) l.length k (by omega)) (by simp)
theorem refput_any (n : Nat) (k : Int) (l : List Int) (hn : n < 2 ^ 64) (hl : l.length ≤ 2 ^ 20) :
    Eng.Spec Try.prog 14 [1000] (refH l) [.ptr 1000 0 0 0, .d (.v (.int .u64 n)), .d (.v (.int .i64 k))] (refH (putL n k l)) (.d (.v (.int .i64 (putE k)))) := by
  unfold putL putE
  by_cases h : 0 ≤ k ∧ k ≤ 32
  · obtain ⟨j, rfl⟩ := Int.eq_ofNat_of_zero_le h.1
    rw [if_pos h, if_pos h]
    exact refput_spec n j l hn (by omega) (by omega)
  · rw [if_neg h, if_neg h]
    exact unpin (refput_err n l k (by omega)) (by simp)
theorem putL_len (n : Nat) (k : Int) (l : List Int) : (putL n k l).length ≤ l.length + 32 := by
  unfold putL; split
  · simp [bitsI_len]; omega
  · omega
theorem putL_01 (n : Nat) (k : Int) (l : List Int) (h : ∀ x ∈ l, x = 0 ∨ x = 1) : ∀ x ∈ putL n k l, x = 0 ∨ x = 1 := by
  unfold putL; split
  · intro x hx
    rcases List.mem_append.1 hx with hx | hx
    · exact h x hx
    · exact bitsI_01 _ _ x hx
  · exact h
/-- Get, whatever it is asked for. -/
def gotE (b : List Int) (a : Nat) (k : Int) : Int := if k < 0 ∨ 32 < k then 1 else if ((8 * b.length - a : Nat) : Int) < k then 5 else 0
def gotA (b : List Int) (a : Nat) (k : Int) : Nat := if gotE b a k = 0 then a + k.toNat else a
def gotV (b : List Int) (a : Nat) (k : Int) : Nat := if gotE b a k = 0 then getN b a k.toNat else 0
theorem gotA_le (b : List Int) (a : Nat) (k : Int) (ha : a ≤ 8 * b.length) : gotA b a k ≤ 8 * b.length := by
  unfold gotA gotE
  by_cases h : k < 0 ∨ 32 < k
  · rw [if_pos h, if_neg (by decide)]; exact ha
  · by_cases h2 : ((8 * b.length - a : Nat) : Int) < k
    · rw [if_neg h, if_pos h2, if_neg (by decide)]; exact ha
    · rw [if_neg h, if_neg h2, if_pos rfl]; omega
theorem get_any (b : List Int) (a : Nat) (k : Int) (hb : b.length ≤ 2 ^ 40) (ha : a ≤ 8 * b.length) (hr : ∀ x ∈ b, 0 ≤ x ∧ x < 256) :
    Eng.Spec Try.prog 18 [1000, 1001] (inH b a) [.ptr 1000 0 0 0, .d (.v (.int .i64 k))] (inH b (gotA b a k)) (.tup [.d (.v (.int .u64 (gotV b a k))), .d (.v (.int .i64 (gotE b a k)))]) := by
  unfold gotV gotA gotE
  by_cases h : k < 0 ∨ 32 < k
  · simp only [if_pos h]
    exact get_err1 b a k h
  · simp only [if_neg h]
    by_cases h2 : ((8 * b.length - a : Nat) : Int) < k
    · simp only [if_pos h2]
      exact get_err2 b a k hb ha (by omega) h2
    · simp only [if_neg h2]
      obtain ⟨j, rfl⟩ := Int.eq_ofNat_of_zero_le (show 0 ≤ k by omega)
      exact get_spec b a j hb (by omega) (by omega) hr
theorem refget_any (s : ByteArray) (a : Nat) (k : Int) (hb : s.size ≤ 2 ^ 40) (ha : a ≤ 8 * s.size) (hz : (byt s).length = s.size) :
    Eng.Spec Try.prog 19 [1000] (rinH s a) [.ptr 1000 0 0 0, .d (.v (.int .i64 k))] (rinH s (gotA (byt s) a k)) (.tup [.d (.v (.int .u64 (gotV (byt s) a k))), .d (.v (.int .i64 (gotE (byt s) a k)))]) := by
  unfold gotV gotA gotE
  rw [hz]
  by_cases h : k < 0 ∨ 32 < k
  · simp only [if_pos h]
    exact refget_err1 s a k h
  · simp only [if_neg h]
    by_cases h2 : ((8 * s.size - a : Nat) : Int) < k
    · simp only [if_pos h2]
      exact refget_err2 s a k hb ha (by omega) h2
    · simp only [if_neg h2]
      obtain ⟨j, rfl⟩ := Int.eq_ofNat_of_zero_le (show 0 ≤ k by omega)
      exact refget_spec s a j hb (by omega) (by omega)
/-- Is what is left the rest of a byte, and nought? -/
def restB (b : List Int) (a : Nat) : Bool := decide (8 * b.length - a < 8) && decide ((getN b a (8 * b.length - a) : Int) = 0)
theorem rest_any (b : List Int) (a : Nat) (hb : b.length ≤ 2 ^ 40) (ha : a ≤ 8 * b.length) (hr : ∀ x ∈ b, 0 ≤ x ∧ x < 256) :
    Eng.Spec Try.prog 22 [1000, 1001] (inH b a) [.ptr 1000 0 0 0] (inH b a) (.d (.v (.bool (restB b a)))) := by
  unfold restB
  by_cases h : 8 * b.length - a < 8
  · rw [decide_eq_true h, Bool.true_and]; exact rest_spec b a hb ha h hr
  · rw [decide_eq_false h, Bool.false_and]; exact rest_no b a hb ha (by omega)
theorem refrest_any (s : ByteArray) (a : Nat) (hb : s.size ≤ 2 ^ 40) (ha : a ≤ 8 * s.size) (hz : (byt s).length = s.size) :
    Eng.Spec Try.prog 23 [1000] (rinH s a) [.ptr 1000 0 0 0] (rinH s a) (.d (.v (.bool (restB (byt s) a)))) := by
  unfold restB
  rw [hz]
  by_cases h : 8 * s.size - a < 8
  · rw [decide_eq_true h, Bool.true_and]; exact refrest_spec s a hb ha h
  · rw [decide_eq_false h, Bool.false_and]; exact refrest_no s a hb ha (by omega)
end Go.Proofs.Bits
