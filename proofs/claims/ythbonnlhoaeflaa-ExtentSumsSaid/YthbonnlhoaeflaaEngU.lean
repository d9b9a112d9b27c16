/-
  The engine, part U: rows of whole numbers, and rows that are a list's image.
-/
import Derived.Test.YthbonnlhoaeflaaEngT
set_option linter.unusedVariables false
set_option linter.unusedSimpArgs false
namespace Go.Eng
open Go.RowKit Go.Lib

/-- Rows of whole numbers. -/
def rK (k : IntKind) (l : List Int) : List (List D) := l.map fun n => [.v (.int k n)]
/-- Rows that are a list's image. -/
def rM {α : Type} (f : α → List D) (l : List α) : List (List D) := l.map f

theorem rK_nil {k : IntKind} : rK k [] = [] := rfl
theorem rK_one {k : IntKind} {n : Int} : ([[.v (.int k n)]] : List (List D)) = rK k [n] := rfl
theorem rK_cons {k : IntKind} {n : Int} {l : List Int} : ([.v (.int k n)] :: rK k l : List (List D)) = rK k (n :: l) := rfl
theorem rK_app {k : IntKind} {a b : List Int} : rK k a ++ rK k b = rK k (a ++ b) := by simp [rK]
theorem rK_rep {k : IntKind} {n : Nat} {x : Int} : List.replicate n [D.v (.int k x)] = rK k (List.replicate n x) := by simp [rK]
theorem rK_len {k : IntKind} {l : List Int} : (rK k l).length = l.length := by simp [rK]
theorem rK_take {k : IntKind} {l : List Int} {n : Nat} : (rK k l).take n = rK k (l.take n) := by simp [rK, List.map_take]
theorem rK_drop {k : IntKind} {l : List Int} {n : Nat} : (rK k l).drop n = rK k (l.drop n) := by simp [rK, List.map_drop]
theorem rK_set {k : IntKind} {l : List Int} {n : Nat} {x : Int} : (rK k l).set n [.v (.int k x)] = rK k (l.set n x) := by simp [rK, List.map_set]
theorem rM_len {α : Type} {f : α → List D} {l : List α} : (rM f l).length = l.length := by simp [rM]
theorem rM_take {α : Type} {f : α → List D} {l : List α} {n : Nat} : (rM f l).take n = rM f (l.take n) := by simp [rM, List.map_take]
theorem rM_drop {α : Type} {f : α → List D} {l : List α} {n : Nat} : (rM f l).drop n = rM f (l.drop n) := by simp [rM, List.map_drop]
theorem rM_app {α : Type} {f : α → List D} {a b : List α} : rM f a ++ rM f b = rM f (a ++ b) := by simp [rM]

theorem load_rK {k : IntKind} {l : List Int} {i g g' row : Nat} {K : U → Prop} : loadW 1 false (.ptr i g row 0, [some ⟨g', .arr 1 (rK k l)⟩]) K = (g = g' ∧ row < l.length ∧ K ⟨.d (.v (.int k (l.getD row 0))), []⟩) := by
  have key : (row < (rK k l).length ∧ ∀ r, (rK k l)[row]? = some r → takeW 1 false ((r.drop 0).map .d) K) = (row < l.length ∧ K ⟨.d (.v (.int k (l.getD row 0))), []⟩) := by
    rw [rK_len]
    apply propext
    constructor
    · rintro ⟨h1, h2⟩
      have := h2 [.v (.int k l[row])] (by simp [rK, h1])
      refine ⟨h1, ?_⟩
      rw [List.getD_eq_getElem?_getD, List.getElem?_eq_getElem h1]
      exact this
    · rintro ⟨h1, h2⟩
      refine ⟨h1, fun r hr => ?_⟩
      simp [rK, h1] at hr
      subst hr
      rw [List.getD_eq_getElem?_getD, List.getElem?_eq_getElem h1] at h2
      exact h2
  cases row with
  | zero => simp only [loadW]; rw [← key]
  | succ row => simp only [loadW]; rw [← key]

theorem store_rK {k : IntKind} {l : List Int} {i g g' row : Nat} {n : Int} {o : List (Option Ob)} {K : U → Prop} : storeW 1 (.ptr i g row 0, [some ⟨g', .arr 1 (rK k l)⟩]) (.d (.v (.int k n)), o) K = (g = g' ∧ row < l.length ∧ K ⟨.any, [(i, ⟨g', .arr 1 (rK k (l.set row n))⟩)]⟩) := by
  have key : (row < (rK k l).length ∧ ∀ r, (rK k l)[row]? = some r → K ⟨.any, [(i, ⟨g', .arr 1 ((rK k l).set row (setAt r 0 [.v (.int k n)]))⟩)]⟩) = (row < l.length ∧ K ⟨.any, [(i, ⟨g', .arr 1 (rK k (l.set row n))⟩)]⟩) := by
    rw [rK_len]
    apply propext
    constructor
    · rintro ⟨h1, h2⟩
      have := h2 [.v (.int k l[row])] (by simp [rK, h1])
      exact ⟨h1, by simpa [setAt, rK_set] using this⟩
    · rintro ⟨h1, h2⟩
      refine ⟨h1, fun r hr => ?_⟩
      simp [rK, h1] at hr
      subst hr
      simpa [setAt, rK_set] using h2
  cases row with
  | zero => simp only [storeW, S.cellsOf, List.all_cons, S.one, Value.oneCell', List.all_nil, Bool.and_self, pureCells, pureCell, List.append_nil, List.length_cons, List.length_nil, true_and, Nat.zero_add, Nat.le_refl]; rw [← key]
  | succ row => simp only [storeW, S.cellsOf, List.all_cons, S.one, Value.oneCell', List.all_nil, Bool.and_self, pureCells, pureCell, List.append_nil, List.length_cons, List.length_nil, true_and, Nat.zero_add, Nat.le_refl]; rw [← key]

theorem iad_rK {k kn : IntKind} {l : List Int} {n : Int} {o o' : List (Option Ob)} {K : U → Prop} : iadW 1 (.d (.sl 1 (rK k l)), o) (.d (.v (.int kn n)), o') K = (0 ≤ n ∧ n < l.length ∧ K ⟨.pat [.v (.int k (l.getD n.toNat 0))], []⟩) := by
  simp only [iadW, true_and, rK_len]
  apply propext
  constructor
  · rintro ⟨h0, h1, h2⟩
    have hlt : n.toNat < l.length := by omega
    have := h2 [.v (.int k l[n.toNat])] (by simp [rK, hlt])
    refine ⟨h0, h1, ?_⟩
    rw [List.getD_eq_getElem?_getD, List.getElem?_eq_getElem hlt]
    exact this
  · rintro ⟨h0, h1, h2⟩
    have hlt : n.toNat < l.length := by omega
    refine ⟨h0, h1, fun r hr => ?_⟩
    simp [rK, hlt] at hr
    subst hr
    rw [List.getD_eq_getElem?_getD, List.getElem?_eq_getElem hlt] at h2
    exact h2

theorem iad_rM {α : Type} [Inhabited α] {sz : Nat} {kn : IntKind} {f : α → List D} {l : List α} {n : Int} {o o' : List (Option Ob)} {K : U → Prop} : iadW sz (.d (.sl sz (rM f l)), o) (.d (.v (.int kn n)), o') K = (0 ≤ n ∧ n < l.length ∧ K ⟨.pat (f (l.getD n.toNat default)), []⟩) := by
  simp only [iadW, true_and, rM_len]
  apply propext
  constructor
  · rintro ⟨h0, h1, h2⟩
    have hlt : n.toNat < l.length := by omega
    have := h2 (f l[n.toNat]) (by simp [rM, hlt])
    refine ⟨h0, h1, ?_⟩
    rw [List.getD_eq_getElem?_getD, List.getElem?_eq_getElem hlt]
    exact this
  · rintro ⟨h0, h1, h2⟩
    have hlt : n.toNat < l.length := by omega
    refine ⟨h0, h1, fun r hr => ?_⟩
    simp [rM, hlt] at hr
    subst hr
    rw [List.getD_eq_getElem?_getD, List.getElem?_eq_getElem hlt] at h2
    exact h2

theorem load_rM {α : Type} [Inhabited α] {n sz : Nat} {ag : Bool} {f : α → List D} {l : List α} {i g g' row cell : Nat} {K : U → Prop} :
    loadW n ag (.ptr i g row cell, [some ⟨g', .arr sz (rM f l)⟩]) K = (g = g' ∧ row < l.length ∧ takeW n ag (((f (l.getD row default)).drop cell).map .d) K) := by
  have key : (row < (rM f l).length ∧ ∀ r, (rM f l)[row]? = some r → takeW n ag ((r.drop cell).map .d) K) = (row < l.length ∧ takeW n ag (((f (l.getD row default)).drop cell).map .d) K) := by
    rw [rM_len]
    apply propext
    constructor
    · rintro ⟨h1, h2⟩
      have := h2 (f l[row]) (by simp [rM, h1])
      refine ⟨h1, ?_⟩
      rw [List.getD_eq_getElem?_getD, List.getElem?_eq_getElem h1]
      exact this
    · rintro ⟨h1, h2⟩
      refine ⟨h1, fun r hr => ?_⟩
      simp [rM, h1] at hr
      subst hr
      rw [List.getD_eq_getElem?_getD, List.getElem?_eq_getElem h1] at h2
      exact h2
  cases row with
  | zero => simp only [loadW]; rw [← key]
  | succ row => simp only [loadW]; rw [← key]

/-- A text's bytes. -/
def byt (s : ByteArray) : List Int := s.data.toList.map fun c => (c.toNat : Int)
theorem byt_len {s : ByteArray} : (byt s).length = s.size := by rw [byt, List.length_map, Array.length_toList]; rfl
theorem toList_data (s : ByteArray) : s.toList = s.data.toList := by
  have main : ∀ (m i : Nat) (r : List UInt8), s.size - i = m → ByteArray.toList.loop s i r = r.reverse ++ s.data.toList.drop i := by
    intro m
    induction m with
    | zero =>
      intro i r hm
      unfold ByteArray.toList.loop
      have : ¬ i < s.size := by omega
      have hsz : s.data.toList.length = s.size := by rw [Array.length_toList]; rfl
      rw [if_neg this, List.drop_eq_nil_of_le (by omega), List.append_nil]
    | succ m ih =>
      intro i r hm
      unfold ByteArray.toList.loop
      have hlt : i < s.size := by omega
      rw [if_pos hlt, ih (i + 1) _ (by omega)]
      have hsz : s.data.toList.length = s.size := by rw [Array.length_toList]; rfl
      have hlt' : i < s.data.toList.length := by omega
      have hlt2 : i < s.data.size := hlt
      rw [List.drop_eq_getElem_cons hlt', List.reverse_cons, List.append_assoc]
      have : s.get! i = s.data.toList[i] := by
        show s.data[i]! = _
        rw [getElem!_pos s.data i hlt2, Array.getElem_toList]
      rw [this]; rfl
  unfold ByteArray.toList
  rw [main _ 0 [] rfl, List.drop_zero]; rfl
theorem bytesD_rK {s : ByteArray} : bytesD s = rK .u8 (byt s) := by
  rw [bytesD, rK, byt, toList_data, List.map_map]; rfl
theorem ixs_byt {s : ByteArray} {kn : IntKind} {n : Int} {o o' : List (Option Ob)} {K : U → Prop} : ixsW (.d (.v (.string s)), o) (.d (.v (.int kn n)), o') K = (0 ≤ n ∧ n < s.size ∧ K ⟨.d (.v (.int .u8 ((byt s).getD n.toNat 0))), []⟩) := by
  simp only [ixsW, vI]
  apply propext
  have hg : ∀ (hlt : n.toNat < s.size), (byt s).getD n.toNat 0 = (s[n.toNat].toNat : Int) := by
    intro hlt
    rw [List.getD_eq_getElem?_getD, List.getElem?_eq_getElem (by rw [byt_len]; exact hlt)]
    rw [Option.getD_some, List.getElem_of_eq (by rw [byt]), List.getElem_map, Array.getElem_toList]; rfl
  constructor
  · rintro ⟨h0, h1, h2⟩
    have hlt : n.toNat < s.size := by omega
    refine ⟨h0, h1, ?_⟩
    rw [hg hlt]
    exact h2 s[n.toNat] (by simp [hlt])
  · rintro ⟨h0, h1, h2⟩
    have hlt : n.toNat < s.size := by omega
    refine ⟨h0, h1, fun c hc => ?_⟩
    rw [hg hlt] at h2
    simp [hlt] at hc
    subst hc; exact h2
end Go.Eng
