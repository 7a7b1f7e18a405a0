/- The laws' operations as data. -/
import Derived.Test.YtakaolcajbhkiaaGreatObjs
import Derived.Test.YtakaolcajbhkiaaGreatBits4
import Derived.Deep.Slices
import Derived.Deep.Fields
import Derived.ChangeArms
import Derived.ProofKit
import Derived.OpenShut
namespace Go.SL
set_option linter.unusedVariables false
set_option linter.unusedSimpArgs false
open Go.RowKit Go.Fm

/-- One operation: what, on which, a number of 64 bits, a count. -/
structure OpD where
  d : Int
  on : Int
  x : Nat
  n : Int
def OpD.ok (o : OpD) : Prop := (-9223372036854775808 ≤ o.d ∧ o.d ≤ 9223372036854775807) ∧ (-9223372036854775808 ≤ o.on ∧ o.on ≤ 9223372036854775807) ∧ o.x < 18446744073709551616 ∧ (-9223372036854775808 ≤ o.n ∧ o.n ≤ 9223372036854775807)
def opv (o : OpD) : List Value := [.int .i64 o.d, .int .i64 o.on, .int .u64 o.x, .int .i64 o.n]
def opsv (l : List OpD) : List Value := l.flatMap opv
theorem length_opsv (l : List OpD) : (opsv l).length = l.length * 4 := by
  induction l with
  | nil => rfl
  | cons o l ih => simp only [opsv, List.flatMap_cons, List.length_append, List.length_cons] at *; simp only [opv, List.length_cons, List.length_nil]; omega
theorem opsv_drop (l : List OpD) (k : Nat) : (opsv l).drop (4 * k) = opsv (l.drop k) := by
  induction k generalizing l with
  | zero => simp
  | succ k ih =>
    cases l with
    | nil => simp [opsv]
    | cons o l =>
      have e : opsv (o :: l) = opv o ++ opsv l := rfl
      rw [e, List.drop_append, List.drop_eq_nil_of_le (by simp [opv]; omega), List.nil_append, List.drop_succ_cons, ← ih]
      congr 1
theorem opsv_at (l : List OpD) (k j : Nat) (h : k < l.length) (hj : j < 4) : (opsv l)[4 * k + j]? = (opv l[k])[j]? := by
  have e : (opsv l)[4 * k + j]? = ((opsv l).drop (4 * k))[j]? := by rw [List.getElem?_drop]
  rw [e, opsv_drop, List.drop_eq_getElem_cons h]
  show (opv l[k] ++ opsv (l.drop (k + 1)))[j]? = _
  rw [List.getElem?_append_left (by simp [opv]; omega)]

/-- The four cells of an operation of a row that is seen. -/
theorem ops_cells {w : World} {v : Value} {l : List OpD} {k : Nat} (h : SliceIs w 4 v l.length (opsv l)) (hk : k < l.length) :
    ∃ g off cap, v = .slice (some ⟨g, off, none⟩) l.length cap ∧ l.length ≤ cap ∧ cap ≤ maxLen ∧ w.cell? ⟨g, off + k * 4, none⟩ = some (.int .i64 l[k].d) ∧ w.cell? ⟨g, off + k * 4 + 1, none⟩ = some (.int .i64 l[k].on) ∧
      w.cell? ⟨g, off + k * 4 + 2, none⟩ = some (.int .u64 l[k].x) ∧ w.cell? ⟨g, off + k * 4 + 3, none⟩ = some (.int .i64 l[k].n) := by
  have h0 : (opsv l)[0]? = some (.int .i64 l[0].d) := by
    have := opsv_at l 0 0 (by omega) (by decide)
    simpa [opv] using this
  obtain ⟨g, off, cap, h1, h2, h3, h4⟩ := h.plain h0
  have c := fun j hj => h4 (4 * k + j) _ ((opsv_at l k j hk hj).trans (by rw [List.getElem?_eq_getElem (by simp [opv]; omega)]))
  have c0 := c 0 (by decide)
  have c1 := c 1 (by decide)
  have c2 := c 2 (by decide)
  have c3 := c 3 (by decide)
  simp only [opv, List.getElem_cons_zero, List.getElem_cons_succ, Nat.add_zero, ← Nat.add_assoc, Nat.mul_comm 4 k] at c0 c1 c2 c3
  exact ⟨g, off, cap, h1, h2, h3, c0, c1, c2, c3⟩
/-- What the four fields' types must be. -/
structure OpType (P : Program) (e : TypeId) (fs : Array Field) : Prop where
  str : P.underlying e = some (.struct fs)
  cells : P.cellsOf e = 4
  size : fs.size = 4
  one : Go.Deep.oneCellFields P fs = true
  t0 : (fs[0]?).bind (fun f => P.underlying f.type) = some (.int .i64)
  t1 : (fs[1]?).bind (fun f => P.underlying f.type) = some (.int .i64)
  t2 : (fs[2]?).bind (fun f => P.underlying f.type) = some (.int .u64)
  t3 : (fs[3]?).bind (fun f => P.underlying f.type) = some (.int .i64)

/-- One field's cell. -/
theorem field_cell {H : Type} {enc : TypeId × Value → H} {P : Program} {w : World} {base : Nat} {spare : Nat → Bool} {held : Bool} {fs : Array Field} {cs' : List Value} {xs : List (DataW H × List MemPlace)} {n j : Nat} {k : IntKind}
    (hone : Go.Deep.oneCellFields P fs = true) (hl : cs'.length = fs.size) (hx : xs.length = fs.size) (hg : ∀ (i : Nat) (f : Field), fs[i]? = some f → DataW.trod enc P w base spare held n f.type ((cs'.drop f.offset).take (P.cellsOf f.type)) = xs[i]?)
    (ht : (fs[j]?).bind (fun f => P.underlying f.type) = some (.int k)) : ∃ z, cs'[j]? = some (.int k z) ∧ (Lit.int k z).wf = true := by
  cases hf : fs[j]? with
  | none => rw [hf] at ht; cases ht
  | some f =>
    rw [hf] at ht
    have hj : j < fs.size := (Array.getElem?_eq_some_iff.1 hf).1
    obtain ⟨ho, hk⟩ := Go.Deep.hone_of hone j f hf
    have h1 := hg j f hf
    rw [ho, hk, List.drop_eq_getElem_cons (by omega), List.take_succ_cons, List.take_zero, List.getElem?_eq_getElem (by omega)] at h1
    obtain ⟨z, hz, _, hw⟩ := DataW.trod_int ht h1
    refine ⟨z, ?_, hw⟩
    rw [List.getElem?_eq_getElem (by omega)]
    simpa using hz

theorem i64_wf {z : Int} (h : (Lit.int .i64 z).wf = true) : -9223372036854775808 ≤ z ∧ z ≤ 9223372036854775807 := bounds_i64 h

/-- A row of operations that came in. -/
theorem ops_in {H : Type} {enc : TypeId × Value → H} {P : Program} {W : World} {spare : Nat → Bool} {held : Bool} {t e : TypeId} {fs : Array Field} {a : Option Addr} {len cap fuel : Nat} {x : DataW H × List MemPlace}
    (ht : P.underlying t = some (.slice e)) (hO : OpType P e fs) (h : DataW.trod enc P W 0 spare held fuel t [.slice a len cap] = some x) :
    ∃ l : List OpD, l.length = len ∧ (∀ o ∈ l, o.ok) ∧ SliceIs W 4 (.slice a len cap) l.length (opsv l) := by
  rcases Go.Deep.open_slice ht h with ⟨hcs, _⟩ | ⟨ad, len', cap', m, n, D, Pl, hcs, _, hl, hm, hmm, _, hi⟩
  · simp only [List.cons.injEq, and_true] at hcs
    cases hcs
    exact ⟨[], rfl, fun _ h => (by cases h), rfl, .inl ⟨rfl, rfl⟩⟩
  · simp only [List.cons.injEq, and_true] at hcs
    cases hcs
    have hlm : len ≤ m := by rw [hmm]; split <;> omega
    have key : ∀ i, i < len → ∃ o : OpD, o.ok ∧ ∀ j u, (opv o)[j]? = some u → W.cell? (ad.add (i * 4 + j)) = some u := by
      intro i hil
      obtain ⟨cs', hc, htr⟩ := hi i (by omega)
      rw [hO.cells] at hc
      obtain ⟨_, hcl, hat⟩ := World.cells?_some hc
      obtain ⟨xs, n', _, _, _, hxl, hg⟩ := DataW.trod_struct hO.str htr
      have hcl' : cs'.length = fs.size := by rw [hcl, hO.size]
      obtain ⟨z0, e0, w0⟩ := field_cell hO.one hcl' hxl hg hO.t0
      obtain ⟨z1, e1, w1⟩ := field_cell hO.one hcl' hxl hg hO.t1
      obtain ⟨z2, e2, w2⟩ := field_cell hO.one hcl' hxl hg hO.t2
      obtain ⟨z3, e3, w3⟩ := field_cell hO.one hcl' hxl hg hO.t3
      have b2 := bounds_u64 w2
      refine ⟨⟨z0, z1, z2.toNat, z3⟩, ⟨i64_wf w0, i64_wf w1, by simp only []; omega, i64_wf w3⟩, ?_⟩
      intro j u hu
      have hcell : ∀ j, j < 4 → W.cell? (ad.add (i * 4 + j)) = cs'[j]? := fun j hj => by rw [← Go.Deep.add_add]; exact hat j hj
      have hj : j < 4 := by
        have := (List.getElem?_eq_some_iff.1 hu).1
        simpa [opv] using this
      rw [hcell j hj]
      match j, hj with
      | 0, _ => rw [e0, ← hu]; rfl
      | 1, _ => rw [e1, ← hu]; rfl
      | 2, _ =>
        rw [e2, ← hu]
        show _ = some (Value.int .u64 ((z2.toNat : Nat) : Int))
        rw [Int.toNat_of_nonneg b2.1]
      | 3, _ => rw [e3, ← hu]; rfl
    have : Inhabited OpD := ⟨⟨0, 0, 0, 0⟩⟩
    obtain ⟨f, hf⟩ := Go.Deep.choose_lt key
    refine ⟨(List.range len).map f, by simp, ?_, by rw [length_opsv], .inr ⟨ad, cap, by simp, by simpa using hl, hm, ?_⟩⟩
    · intro o ho
      obtain ⟨i, hi, rfl⟩ := List.mem_map.1 ho
      exact (hf i (List.mem_range.1 hi)).1
    · intro j u hu
      have hjl : j < len * 4 := by
        have := (List.getElem?_eq_some_iff.1 hu).1
        rw [length_opsv] at this
        simpa using this
      have hd : j = 4 * (j / 4) + j % 4 := by omega
      rw [hd, opsv_at _ (j / 4) (j % 4) (by simp; omega) (by omega)] at hu
      have hq : j / 4 < len := by omega
      have := (hf (j / 4) hq).2 (j % 4) u (by simpa using hu)
      rw [show j / 4 * 4 + j % 4 = j by omega] at this
      exact this
end Go.SL
