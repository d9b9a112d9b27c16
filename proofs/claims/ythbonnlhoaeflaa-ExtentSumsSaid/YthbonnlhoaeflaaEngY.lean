/-
  The engine, part Y: a law's arguments, opened to pure data; and a law's row out of what is promised of its function.
-/
import Derived.Test.YthbonnlhoaeflaaEngX
import Derived.WalkKit
import Derived.ProofKit
import Derived.OpenShut
import Derived.ChangeOld
import Derived.SizedLaws
import Derived.Carry
import Derived.ShutString
import Derived.Deep.Slices
import Derived.Deep.Fields
set_option linter.unusedVariables false
set_option linter.unusedSimpArgs false
namespace Go.Eng
open Go.RowKit Go.Lib Go.ChangeShapes Go.WideShapes

/-- What a cell of an argument may be. -/
inductive CS where
  | bool
  | int (k : IntKind)
  | flt (k : FloatKind)
  | str
  | sl (bytes : Nat) (cs : List CS)

mutual
/-- Data of that kind, within the bounds that the machine and the row set. -/
def WT : CS → D → Prop
  | .bool, .v (.bool _) => True
  | .int k, .v (.int k' n) => k' = k ∧ (Lit.int k n).wf = true
  | .flt k, .v (.float k' b) => k' = k ∧ (Lit.float k b).wf = true
  | .str, .v (.string s) => s.size ≤ reachBytes
  | .sl B cs, .sl sz rows => sz = cs.length ∧ rows.length * B ≤ reachBytes ∧ ∀ r ∈ rows, WTs cs r
  | _, _ => False
def WTs : List CS → List D → Prop
  | [], [] => True
  | c :: cs, d :: ds => WT c d ∧ WTs cs ds
  | _, _ => False
end

theorem WTs.length : ∀ {cs : List CS} {ds : List D}, WTs cs ds → ds.length = cs.length
  | [], [], _ => rfl
  | _ :: cs, _ :: ds, h => by simp only [WTs] at h; simp [WTs.length h.2]
  | [], _ :: _, h => by simp [WTs] at h
  | _ :: _, [], h => by simp [WTs] at h

theorem WTs.append : ∀ {cs cs' : List CS} {ds ds' : List D}, WTs cs ds → WTs cs' ds' → WTs (cs ++ cs') (ds ++ ds')
  | [], _, [], _, _, h' => h'
  | _ :: cs, _, _ :: ds, _, h, h' => by simp only [WTs, List.cons_append] at h ⊢; exact ⟨h.1, h.2.append h'⟩
  | [], _, _ :: _, _, h, _ => by simp [WTs] at h
  | _ :: _, _, [], _, h, _ => by simp [WTs] at h

/-- The cells of a type. -/
def csFields (P : Program) (f : TypeId → Option (List CS)) : List Field → Nat → Option (List CS)
  | [], _ => some []
  | x :: r, o => if x.offset = o then (f x.type).bind fun l => if l.length = P.cellsOf x.type then (csFields P f r (o + l.length)).map (l ++ ·) else none else none

def csOf (P : Program) : Nat → TypeId → Option (List CS)
  | 0, _ => none
  | n + 1, t => match P.underlying t with
    | some .bool => some [.bool]
    | some (.int k) => some [.int k]
    | some (.float k) => some [.flt k]
    | some .string => some [.str]
    | some (.slice e) => (csOf P n e).bind fun l => if l.length = P.cellsOf e ∧ l ≠ [] then some [.sl (P.bytesOf e) l] else none
    | some (.struct fs) => (csFields P (csOf P n) fs.toList 0).bind fun l => if l.length = P.cellsOf t then some l else none
    | _ => none

section
variable {H : Type} {enc : TypeId × Value → H} {P : Program} {w : World}

/-- Row by row: cells told. -/
def Told (w : World) (ds : List D) (cs : List Value) : Prop := ds.length = cs.length ∧ ∀ (k : Nat) (d : D) (v : Value), ds[k]? = some d → cs[k]? = some v → RepD w (fun b => b < w.heap.size) d v ∧ v.oneCell' = true

theorem Told.one {d : D} {v : Value} (h : RepD w (fun b => b < w.heap.size) d v) (ho : v.oneCell' = true) : Told w [d] [v] := by
  refine ⟨rfl, fun k d' v' h1 h2 => ?_⟩
  cases k with
  | zero => simp only [List.getElem?_cons_zero, Option.some.injEq] at h1 h2; subst h1; subst h2; exact ⟨h, ho⟩
  | succ k => simp at h1

theorem Told.append {ds ds' : List D} {cs cs' : List Value} (h : Told w ds cs) (h' : Told w ds' cs') : Told w (ds ++ ds') (cs ++ cs') := by
  refine ⟨by simp [h.1, h'.1], fun k d v h1 h2 => ?_⟩
  by_cases hk : k < ds.length
  · rw [List.getElem?_append_left hk] at h1
    rw [List.getElem?_append_left (by have := h.1; omega)] at h2
    exact h.2 k d v h1 h2
  · rw [List.getElem?_append_right (by omega)] at h1
    rw [List.getElem?_append_right (by have := h.1; omega), ← h.1] at h2
    exact h'.2 _ d v h1 h2

theorem weights_mem_all {e : TypeId} : ∀ {ds : List (DataW H)} {d : DataW H}, d ∈ ds → ∀ n ∈ d.weights P e, n ∈ DataW.weightsAll P e ds
  | d0 :: ds, d, hd, n, hn => by
    simp only [DataW.weightsAll, List.mem_append]
    rcases List.mem_cons.1 hd with rfl | hd
    · exact .inl hn
    · exact .inr (weights_mem_all hd n hn)

theorem open_any {spare : Nat → Bool} : ∀ (n : Nat) (t : TypeId) (l : List CS), csOf P n t = some l → ∀ (fuel : Nat) (cs : List Value) (x : DataW H × List MemPlace), DataW.trod enc P w 0 spare true fuel t cs = some x →
    (∀ k ∈ x.1.weights P t, k ≤ reachBytes) → ∃ ds, WTs l ds ∧ Told w ds cs
  | 0, t, l, hl, _, _, _, _, _ => by simp [csOf] at hl
  | n + 1, t, l, hl, fuel, cs, x, h, hw => by
    unfold csOf at hl
    split at hl
    · rename_i hu
      obtain rfl := Option.some.inj hl
      obtain ⟨b, rfl, rfl⟩ := DataW.trod_bool hu h
      exact ⟨[.v (.bool b)], by simp [WTs, WT], .one (.v _) rfl⟩
    · rename_i k hu
      obtain rfl := Option.some.inj hl
      obtain ⟨b, rfl, rfl, hwf⟩ := DataW.trod_int hu h
      exact ⟨[.v (.int k b)], by simp [WTs, WT, hwf], .one (.v _) rfl⟩
    · rename_i k hu
      obtain rfl := Option.some.inj hl
      obtain ⟨b, rfl, hwf⟩ : ∃ b, cs = [.float k b] ∧ (Lit.float k b).wf = true := by
        cases fuel with
        | zero => simp [DataW.trod] at h
        | succ n =>
          unfold DataW.trod at h
          rw [hu] at h
          split at h <;> simp_all
      exact ⟨[.v (.float k b)], by simp [WTs, WT, hwf], .one (.v _) rfl⟩
    · rename_i hu
      obtain rfl := Option.some.inj hl
      obtain ⟨b, rfl, rfl, hz⟩ := DataW.trod_string hu h
      refine ⟨[.v (.string b)], ?_, .one (.v _) rfl⟩
      have := hw b.data.toList.length (by simp [DataW.weights])
      simp only [WTs, WT, and_true]
      simpa using this
    · rename_i e hu
      obtain ⟨le, hle, hl⟩ := Option.bind_eq_some_iff.1 hl
      split at hl
      · rename_i hc
        obtain rfl := Option.some.inj hl
        rcases Deep.open_slice hu h with ⟨rfl, rfl⟩ | ⟨a, len, cap, m, f, D, Pl, rfl, _, h1, h2, hm, rfl, hel⟩
        · exact ⟨[.sl le.length []], by simp [WTs, WT], .one (.nil _) rfl⟩
        · have hmc : len ≤ m := by rw [hm]; split <;> omega
          have hx : ∀ i, i < len → ∃ ds : List Eng.D, WTs le ds ∧ ∃ cs', w.cells? 0 (a.add (i * P.cellsOf e)) (P.cellsOf e) = some cs' ∧ Told w ds cs' := by
            intro i hi
            obtain ⟨cs', hc', ht'⟩ := hel i (by omega)
            obtain ⟨ds, q1, q2⟩ := open_any n e le hle f cs' _ ht' (fun k hk => hw k (by
              simp only [DataW.weights, hu, List.mem_cons, List.mem_append]
              exact .inr (.inl (weights_mem_all (List.mem_map.2 ⟨i, List.mem_range.2 hi, rfl⟩) k hk))))
            exact ⟨ds, q1, cs', hc', q2⟩
          haveI : Inhabited (List Eng.D) := ⟨[]⟩
          obtain ⟨F, hF⟩ := Deep.choose_lt hx
          by_cases hlen0 : len = 0
          · subst hlen0
            exact ⟨[.sl le.length []], by simp [WTs, WT], .one (.emp _ _ _) rfl⟩
          have hposE : 0 < P.cellsOf e := by
            rw [← hc.1]
            cases le with
            | nil => exact absurd rfl hc.2
            | cons _ _ => simp
          have hspot : a.spot = none := by
            obtain ⟨_, cs', q2, _⟩ := hF 0 (by omega)
            obtain ⟨_, hcl, hat⟩ := World.cells?_some q2
            have h3 := hat 0 hposE
            rw [List.getElem?_eq_getElem (by omega)] at h3
            simpa [Addr.add] using World.cell?_spot h3
          obtain ⟨b, o, spot⟩ := a
          simp only at hspot
          subst hspot
          have hadd : ∀ o i, (⟨b, o, none⟩ : Addr).add i = ⟨b, o + i, none⟩ := by
            intro o i; unfold Addr.add; by_cases hi : i = 0 <;> simp [hi]
          have hFl : ∀ i, i < len → (F i).length = le.length := fun i hi => (hF i hi).1.length
          have hpos : 0 < le.length := by cases le with
            | nil => exact absurd rfl hc.2
            | cons _ _ => simp
          have hflat : ∀ (k : Nat) (x : Eng.D), ((List.range len).map F).flatten[k]? = some x → k / le.length < len ∧ (F (k / le.length))[k % le.length]? = some x := by
            intro k x hk
            have hR : ∀ r ∈ (List.range len).map F, r.length = le.length := by
              intro r hr
              obtain ⟨i, hi, rfl⟩ := List.mem_map.1 hr
              exact hFl i (List.mem_range.1 hi)
            have hlt : k < ((List.range len).map F).flatten.length := (List.getElem?_eq_some_iff.1 hk).1
            have hfl : ((List.range len).map F).flatten.length = len * le.length := by
              have : ((List.range len).map F).flatten.length = (((List.range len).map F).map (·.length)).sum := by simp [List.length_flatten]
              rw [this]
              have : ((List.range len).map F).map (·.length) = List.replicate len le.length := by
                rw [List.map_map]
                apply List.ext_getElem?
                intro i
                by_cases hi : i < len
                · simp [hi, hFl i hi]
                · simp [hi]
              rw [this]; simp
            rw [hfl] at hlt
            have hd : k / le.length < len := by rw [Nat.div_lt_iff_lt_mul hpos]; exact hlt
            refine ⟨hd, ?_⟩
            have gen : ∀ (L : List (List Eng.D)) (z : Nat), (∀ r ∈ L, r.length = z) → 0 < z → ∀ k, L.flatten[k]? = (L[k / z]?).bind fun r => r[k % z]? := by
              intro L z hL hz
              induction L with
              | nil => intro k; simp
              | cons r R ih =>
                intro k
                have hr : r.length = z := hL r (List.mem_cons_self ..)
                rw [List.flatten_cons]
                by_cases hkz : k < z
                · rw [List.getElem?_append_left (by omega), Nat.div_eq_of_lt hkz, Nat.mod_eq_of_lt hkz]; rfl
                · rw [List.getElem?_append_right (by omega), hr, ih (fun r hr => hL r (List.mem_cons_of_mem _ hr))]
                  have e1 : k / z = (k - z) / z + 1 := by
                    have := Nat.sub_add_cancel (show z ≤ k by omega)
                    conv => lhs; rw [← this]
                    rw [Nat.add_div_right _ hz]
                  have e2 : k % z = (k - z) % z := by
                    have := Nat.sub_add_cancel (show z ≤ k by omega)
                    conv => lhs; rw [← this]
                    rw [Nat.add_mod_right]
                  rw [e1, e2]; simp
            rw [gen _ _ hR hpos k] at hk
            simpa [hd] using hk
          have hcellF : ∀ k x, ((List.range len).map F).flatten[k]? = some x → ∃ v, w.cell? ⟨b, o + k, none⟩ = some v ∧ v.oneCell' = true ∧ RepD w (fun b => b < w.heap.size) x v := by
            intro k x hk
            obtain ⟨hd, hkx⟩ := hflat k x hk
            obtain ⟨q1, cs', q2, q3⟩ := hF _ hd
            obtain ⟨_, hcl, hat⟩ := World.cells?_some q2
            have hml : k % le.length < P.cellsOf e := by rw [← hc.1]; exact Nat.mod_lt _ hpos
            have h3 := hat _ hml
            rw [List.getElem?_eq_getElem (by omega)] at h3
            have h4 := q3.2 _ x _ hkx (List.getElem?_eq_getElem (by omega))
            refine ⟨_, ?_, h4.2, h4.1⟩
            rw [← h3, hadd, hadd]
            have : o + k / le.length * P.cellsOf e + k % le.length = o + k := by
              rw [← hc.1, Nat.add_assoc, Nat.mul_comm, Nat.div_add_mod]
            rw [this]
          refine ⟨[.sl le.length ((List.range len).map F)], ?_, .one ?_ rfl⟩
          · simp only [WTs, WT, and_true, true_and]
            refine ⟨?_, fun r hr => ?_⟩
            · have := hw ((((List.range len).map D).length + ((List.range (m - len)).map fun j => D (len + j)).length) * P.bytesOf e) (by simp [DataW.weights, hu])
              refine Nat.le_trans ?_ this
              simp only [List.length_map, List.length_range]
              exact Nat.mul_le_mul_right _ (by omega)
            · obtain ⟨i, hi, rfl⟩ := List.mem_map.1 hr
              exact (hF i (List.mem_range.1 hi)).1
          · have hlen : ((List.range len).map F).length = len := by simp
            have := RepD.sl (w := w) (ok := fun b => b < w.heap.size) le.length ((List.range len).map F) b o cap (fun k => (w.cell? ⟨b, o + k, none⟩).getD undef)
              (fun r hr => by obtain ⟨i, hi, rfl⟩ := List.mem_map.1 hr; exact hFl i (List.mem_range.1 hi)) (by rw [hlen]; exact h1)
              (fun hne => by
                have h0 : 0 < len := by cases len with
                  | zero => simp at hne
                  | succ n => omega
                have : ((List.range len).map F).flatten[0]? ≠ none := by
                  intro hno
                  have hl1 := List.getElem?_eq_none_iff.1 hno
                  have hfl : F 0 ∈ (List.range len).map F := List.mem_map.2 ⟨0, List.mem_range.2 h0, rfl⟩
                  have hsub : (F 0).length ≤ ((List.range len).map F).flatten.length := by
                    have : List.Sublist (F 0) ((List.range len).map F).flatten := by exact List.sublist_flatten_of_mem hfl
                    exact this.length_le
                  rw [hFl 0 h0] at hsub; omega
                obtain ⟨x, hx⟩ := Option.ne_none_iff_exists'.1 this
                obtain ⟨v, hv, _⟩ := hcellF 0 x hx
                exact World.block_lt_of_cell? w _ hv)
              (fun k x hk => by obtain ⟨v, hv, h1, _⟩ := hcellF k x hk; rw [hv]; exact ⟨rfl, h1⟩)
              (fun k x hk => by obtain ⟨v, hv, _, h2⟩ := hcellF k x hk; rw [hv]; exact h2)
            rw [hlen] at this
            exact this
      · cases hl
    · rename_i fs hu
      obtain ⟨lf, hlf, hl⟩ := Option.bind_eq_some_iff.1 hl
      split at hl
      · rename_i hc
        obtain rfl := Option.some.inj hl
        obtain ⟨xs, m, rfl, rfl, hcl, hxl, hf⟩ := DataW.trod_struct hu h
        have key : ∀ (gs : List Field) (i : Nat) (o : Nat) (lg : List CS), (∀ j, gs[j]? = fs[i + j]?) → csFields P (csOf P n) gs o = some lg → o + lg.length ≤ cs.length →
            ∃ ds, WTs lg ds ∧ Told w ds ((cs.drop o).take lg.length) := by
          intro gs
          induction gs with
          | nil =>
            intro i o lg _ hg _
            simp only [csFields, Option.some.injEq] at hg
            subst hg
            exact ⟨[], by simp [WTs], by simp, by simp⟩
          | cons g gs ih =>
            intro i o lg hgs hg ho
            unfold csFields at hg
            split at hg
            · rename_i hgo
              obtain ⟨l1, hl1, hg⟩ := Option.bind_eq_some_iff.1 hg
              split at hg
              · rename_i hl1c
                obtain ⟨l2, hl2, rfl⟩ := Option.map_eq_some_iff.1 hg
                rw [List.length_append] at ho
                have hgi : fs[i]? = some g := by have := hgs 0; simpa using this.symm
                have htr := hf i g hgi
                have hil : i < xs.length := by have := (Array.getElem?_eq_some_iff.1 hgi).1; omega
                rw [List.getElem?_eq_getElem hil] at htr
                obtain ⟨d1, p1, p2⟩ := open_any n g.type l1 hl1 m _ _ htr (fun k hk => hw k (by
                  simp only [DataW.weights, hu]
                  refine DataW.weights_mem_each (j := i) (t := g.type) (d := xs[i].1) ?_ ?_ k hk
                  · rw [List.getElem?_map, Array.getElem?_toList, hgi]; rfl
                  · rw [List.getElem?_map, List.getElem?_eq_getElem hil]; rfl))
                obtain ⟨d2, r1, r2⟩ := ih (i + 1) (o + l1.length) l2 (fun j => by have := hgs (j + 1); simpa [Nat.add_assoc, Nat.add_comm 1 j] using this) hl2 (by omega)
                refine ⟨d1 ++ d2, p1.append r1, ?_⟩
                have e : (cs.drop o).take (l1 ++ l2).length = (cs.drop g.offset).take (P.cellsOf g.type) ++ (cs.drop (o + l1.length)).take l2.length := by
                  rw [List.length_append, hgo, ← hl1c, List.take_add, List.drop_drop]
                rw [e]
                exact p2.append r2
              · cases hg
            · cases hg
        obtain ⟨ds, q1, q2⟩ := key fs.toList 0 0 lf (fun j => by simp) hlf (by omega)
        refine ⟨ds, q1, ?_⟩
        rw [List.drop_zero, List.take_of_length_le (by omega)] at q2
        exact q2
      · cases hl
    · cases hl
end
end Go.Eng
