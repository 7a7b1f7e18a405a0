/- Reading the argument of the laws of times: rows of times, rows of bytes, numbers. -/
import Derived.Test.YtakaolcajbhkiaaGreatLReads
import Derived.Test.YtakaolcajbhkiaaGreatLTm
import Derived.Deep.Strs
import Derived.SizedLaws
namespace Go.SL
set_option linter.unusedVariables false
set_option linter.unusedSimpArgs false
open Go.RowKit Go.Fm Go.ChangeShapes Go.WideShapes Go.ChangeAt

/-- A row of numbers that came in. -/
theorem times_in {H : Type} {enc : TypeId × Value → H} {P : Program} {W : World} {spare : Nat → Bool} {held : Bool} {t e : TypeId} {fuel : Nat} {v : Value} {x : DataW H × List MemPlace}
    (ht : P.underlying t = some (.slice e)) (he : P.underlying e = some (.int .i64)) (hc : P.cellsOf e = 1) (h : DataW.trod enc P W 0 spare held fuel t [v] = some x) :
    ∃ l : List Int, I64 l ∧ l.length ≤ maxLen ∧ SliceIs W 1 v l.length (iv l) := by
  rcases open_ints ht he hc h with ⟨hcs, _⟩ | ⟨a, len, cap, zs, hcs, _, hl, hm, hz, _, hcell, hwz⟩
  · simp only [List.cons.injEq, and_true] at hcs
    subst hcs
    exact ⟨[], (fun t ht => by cases ht), by decide, rfl, .inl ⟨rfl, rfl⟩⟩
  · simp only [List.cons.injEq, and_true] at hcs
    subst hcs
    have hzl : len ≤ zs.length := by rw [hz]; split <;> omega
    have hlen : (zs.take len).length = len := by simp; omega
    refine ⟨zs.take len, ?_, by omega, by simp, .inr ⟨a, cap, by rw [hlen], by omega, hm, ?_⟩⟩
    · intro y hy
      exact bounds_i64 (hwz y (List.mem_of_mem_take hy))
    · intro j u hu
      have hj : j < len := by
        have := (List.getElem?_eq_some_iff.1 hu).1
        simp at this
        omega
      have hjz : j < zs.length := by omega
      rw [hcell j hjz, ← hu]
      simp [iv, hj, hjz, List.getD]

theorem choose_list {α : Type} {Q : Value → α → Prop} : ∀ (vs : List Value), (∀ v ∈ vs, ∃ a, Q v a) → ∃ bs : List α, bs.length = vs.length ∧ ∀ (i : Nat) (v : Value) (a : α), vs[i]? = some v → bs[i]? = some a → Q v a
  | [], _ => ⟨[], rfl, fun i v a h => by simp at h⟩
  | v :: vs, h => by
    obtain ⟨a, ha⟩ := h v (by simp)
    obtain ⟨bs, h1, h2⟩ := choose_list vs (fun u hu => h u (by simp [hu]))
    refine ⟨a :: bs, by simp [h1], ?_⟩
    intro i u b hu hb
    cases i with
    | zero =>
      simp only [List.getElem?_cons_zero, Option.some.injEq] at hu hb
      rw [← hu, ← hb]; exact ha
    | succ i => exact h2 i u b (by simpa using hu) (by simpa using hb)

theorem mem_weightsAll {H : Type} {P : Program} {e : TypeId} {d : DataW H} {k : Nat} (hk : k ∈ d.weights P e) : ∀ (l : List (DataW H)), d ∈ l → k ∈ DataW.weightsAll P e l
  | [], h => by cases h
  | d' :: l, h => by
    simp only [DataW.weightsAll, List.mem_append]
    rcases List.mem_cons.1 h with rfl | h
    · exact .inl hk
    · exact .inr (mem_weightsAll hk l h)
/-- How long a slice that came in may be. -/
theorem len_sized {H : Type} {enc : TypeId × Value → H} {P : Program} {W : World} {spare : Nat → Bool} {held : Bool} {t e : TypeId} {fuel : Nat} {v : Value} {x : DataW H × List MemPlace} {s n : Nat} {xs : List Value}
    (ht : P.underlying t = some (.slice e)) (h : DataW.trod enc P W 0 spare held fuel t [v] = some x) (hw : ∀ k ∈ x.1.weights P t, k ≤ reachBytes) (hv : SliceIs W s v n xs) : n * P.bytesOf e ≤ reachBytes := by
  rcases Go.Deep.open_slice ht h with ⟨hcs, _⟩ | ⟨a, len, cap, m, n', D, Pl, hcs, _, hl, hm, hmm, hx, hi⟩
  · simp only [List.cons.injEq, and_true] at hcs
    subst hcs
    rcases hv.2 with ⟨_, h0⟩ | ⟨ad, cp, h0, _⟩
    · rw [h0, Nat.zero_mul]; exact Nat.zero_le _
    · cases h0
  · simp only [List.cons.injEq, and_true] at hcs
    subst hcs
    rcases hv.2 with ⟨h0, _⟩ | ⟨ad, cp, h0, _⟩
    · cases h0
    · simp only [Value.slice.injEq] at h0
      obtain ⟨_, rfl, _⟩ := h0
      have h1 := hw ((len + (m - len)) * P.bytesOf e) (by rw [hx]; simp [DataW.weights, ht])
      exact Nat.le_trans (Nat.mul_le_mul_right _ (by omega)) h1

/-- A slice of values of one cell each that came in. -/
theorem vals_in {H : Type} {enc : TypeId × Value → H} {P : Program} {W : World} {spare : Nat → Bool} {held : Bool} {t e : TypeId} {fuel : Nat} {v : Value} {x : DataW H × List MemPlace}
    (ht : P.underlying t = some (.slice e)) (hc : P.cellsOf e = 1) (h : DataW.trod enc P W 0 spare held fuel t [v] = some x) :
    ∃ vs : List Value, vs.length ≤ maxLen ∧ SliceIs W 1 v vs.length vs ∧ ∀ u ∈ vs, ∃ n y, DataW.trod enc P W 0 spare held n e [u] = some y ∧ ∀ k ∈ y.1.weights P e, k ∈ x.1.weights P t := by
  rcases Go.Deep.open_slice1 ht hc h with ⟨hcs, _⟩ | ⟨a, len, cap, m, n, V, D, Pl, hcs, _, hl, hm, hmm, hx, hi⟩
  · simp only [List.cons.injEq, and_true] at hcs
    subst hcs
    exact ⟨[], by decide, ⟨rfl, .inl ⟨rfl, rfl⟩⟩, fun u hu => by cases hu⟩
  · simp only [List.cons.injEq, and_true] at hcs
    subst hcs
    have hlm : len ≤ m := by rw [hmm]; split <;> omega
    refine ⟨(List.range len).map V, by simp; omega, ⟨by simp, .inr ⟨a, cap, by simp, by simpa using hl, hm, ?_⟩⟩, ?_⟩
    · intro j u hu
      have hj : j < len := by
        have := (List.getElem?_eq_some_iff.1 hu).1
        simpa using this
      have e : ((List.range len).map V)[j]? = some (V j) := by simp [hj]
      rw [e] at hu
      simp only [Option.some.injEq] at hu
      rw [← hu]
      exact (hi j (by omega)).1
    · intro u hu
      obtain ⟨i, hi', rfl⟩ := List.mem_map.1 hu
      have hil := List.mem_range.1 hi'
      refine ⟨n, _, (hi i (by omega)).2, fun k hk => ?_⟩
      rw [hx]
      simp only [DataW.weights, ht, List.mem_cons, List.mem_append]
      exact .inr (.inl (mem_weightsAll hk _ (List.mem_map.2 ⟨i, hi', rfl⟩)))

/-- Rows, each of its own elements: bs the outer row's cells say. -/
def RowsIs {α : Type} (w : World) (f : α → List Value) (v : Value) (L : List α) : Prop :=
  ∃ vs : List Value, vs.length = L.length ∧ SliceIs w 1 v L.length vs ∧ ∀ (i : Nat) (u : Value) (l : α), vs[i]? = some u → L[i]? = some l → SliceIs w 1 u (f l).length (f l)

theorem rows_in {α : Type} {H : Type} {enc : TypeId × Value → H} {P : Program} {W : World} {spare : Nat → Bool} {held : Bool} {t e : TypeId} {fuel : Nat} {v : Value} {x : DataW H × List MemPlace}
    (f : α → List Value) (Q : α → Prop) (ht : P.underlying t = some (.slice e)) (hc : P.cellsOf e = 1)
    (hin : ∀ u n y, DataW.trod enc P W 0 spare held n e [u] = some y → (∀ k ∈ y.1.weights P e, k ≤ reachBytes) → ∃ a, Q a ∧ SliceIs W 1 u (f a).length (f a))
    (h : DataW.trod enc P W 0 spare held fuel t [v] = some x) (hw : ∀ k ∈ x.1.weights P t, k ≤ reachBytes) : ∃ L : List α, L.length ≤ maxLen ∧ (∀ a ∈ L, Q a) ∧ RowsIs W f v L := by
  obtain ⟨vs, h1, h2, h3⟩ := vals_in ht hc h
  obtain ⟨bs, h4, h5⟩ := choose_list (Q := fun u a => Q a ∧ SliceIs W 1 u (f a).length (f a)) vs (fun u hu => by
    obtain ⟨n, y, hy, hk⟩ := h3 u hu
    exact hin u n y hy fun k h => hw k (hk k h))
  refine ⟨bs, by omega, ?_, vs, h4.symm, by rw [h4]; exact h2, fun i u l hu hl => (h5 i u l hu hl).2⟩
  intro a ha
  obtain ⟨i, hi, rfl⟩ := List.mem_iff_getElem.1 ha
  exact (h5 i vs[i] bs[i] (List.getElem?_eq_getElem (by omega)) (List.getElem?_eq_getElem hi)).1

/-- The argument's three rows. -/
theorem rows3_in {H : Type} {enc : TypeId × Value → H} {P : Program} {W : World} {spare : Nat → Bool} {held : Bool} {t : TypeId} {fs0 fs1 fs2 : Field} {cs : Array Value} {fuel : Nat} {x : DataW H × List MemPlace}
    (ht : P.underlying t = some (.struct #[fs0, fs1, fs2])) (hs : cs.size = 3) (h0 : fs0.offset = 0) (h1 : fs1.offset = 1) (h2 : fs2.offset = 2) (c0 : P.cellsOf fs0.type = 1) (c1 : P.cellsOf fs1.type = 1) (c2 : P.cellsOf fs2.type = 1)
    (h : DataW.trod enc P W 0 spare held fuel t cs.toList = some x) :
    ∃ v0 v1 v2 n y0 y1 y2, cs = #[v0, v1, v2] ∧ DataW.trod enc P W 0 spare held n fs0.type [v0] = some y0 ∧ DataW.trod enc P W 0 spare held n fs1.type [v1] = some y1 ∧ DataW.trod enc P W 0 spare held n fs2.type [v2] = some y2 ∧
      (∀ k ∈ y0.1.weights P fs0.type, k ∈ x.1.weights P t) ∧ (∀ k ∈ y1.1.weights P fs1.type, k ∈ x.1.weights P t) ∧ (∀ k ∈ y2.1.weights P fs2.type, k ∈ x.1.weights P t) := by
  obtain ⟨v0, v1, v2, rfl⟩ : ∃ v0 v1 v2, cs = #[v0, v1, v2] := by
    obtain ⟨l⟩ := cs
    match l, hs with
    | [v0, v1, v2], _ => exact ⟨v0, v1, v2, rfl⟩
  obtain ⟨y0, y1, y2, n, hx, _, g0, g1, g2⟩ := Go.Deep.trod_struct3 ht h
  rw [h0, c0] at g0
  rw [h1, c1] at g1
  rw [h2, c2] at g2
  refine ⟨v0, v1, v2, n, y0, y1, y2, rfl, g0, g1, g2, ?_, ?_, ?_⟩ <;> intro k hk <;> rw [hx] <;> simp only [DataW.weights, ht, List.map, DataW.weightsEach, List.mem_append]
  · exact .inl hk
  · exact .inr (.inl hk)
  · exact .inr (.inr (.inl hk))

/-- The same of whatever holds. -/
def RowsSeen {α : Type} (F : List HProp) (f : α → List Value) (v : Value) (L : List α) : Prop :=
  ∃ vs : List Value, vs.length = L.length ∧ Sees F 1 v L.length vs ∧ ∀ (i : Nat) (u : Value) (l : α), vs[i]? = some u → L[i]? = some l → Sees F 1 u (f l).length (f l)
theorem RowsIs.seen {α : Type} {W : World} {f : α → List Value} {v : Value} {L : List α} (h : RowsIs W f v L) : RowsSeen [old W W.heap.size] f v L := by
  obtain ⟨vs, h1, h2, h3⟩ := h
  exact ⟨vs, h1, sees_start h2, fun i u l hu hl => sees_start (h3 i u l hu hl)⟩
theorem RowsSeen.cons {α : Type} {F : List HProp} {f : α → List Value} {v : Value} {L : List α} {P : HProp} (h : RowsSeen F f v L) : RowsSeen (P :: F) f v L := by
  obtain ⟨vs, h1, h2, h3⟩ := h
  exact ⟨vs, h1, h2.cons, fun i u l hu hl => (h3 i u l hu hl).cons⟩
/-- The row of a place. -/
theorem RowsSeen.row {α : Type} {F : List HProp} {f : α → List Value} {v : Value} {L : List α} (h : RowsSeen F f v L) {w : World} (hw : Holds w F) {i : Nat} (hi : i < L.length) :
    ∃ g off cap u, v = .slice (some ⟨g, off, none⟩) L.length cap ∧ L.length ≤ cap ∧ cap ≤ maxLen ∧ w.cell? ⟨g, off + i, none⟩ = some u ∧ Sees F 1 u (f L[i]).length (f L[i]) := by
  obtain ⟨vs, h1, h2, h3⟩ := h
  obtain ⟨g, off, cap, hv, hc1, hc2, hc⟩ := (h2 w hw).at (by omega)
  have hiv : i < vs.length := by omega
  exact ⟨g, off, cap, vs[i], hv, hc1, hc2, hc i _ (List.getElem?_eq_getElem hiv), h3 i _ _ (List.getElem?_eq_getElem hiv) (List.getElem?_eq_getElem hi)⟩
theorem RowsSeen.shape {α : Type} {F : List HProp} {f : α → List Value} {v : Value} {L : List α} (h : RowsSeen F f v L) {w : World} (hw : Holds w F) : ∃ a c, v = .slice a L.length c := by
  obtain ⟨vs, h1, h2, h3⟩ := h
  exact slice_shape' (h2 w hw)
end Go.SL
