/- Reading the argument of the laws that take bytes for two readers: two rows of bytes, a row of operations. -/
import Derived.Test.YtakaolcajbhkiaaGreatOps
import Derived.Test.YtakaolcajbhkiaaGreatLTop
namespace Go.SL
set_option linter.unusedVariables false
set_option linter.unusedSimpArgs false
open Go.RowKit Go.Fm Go.ChangeShapes Go.WideShapes Go.ChangeAt

/-- A row of bytes that came in. -/
theorem bytes_in {H : Type} {enc : TypeId × Value → H} {P : Program} {W : World} {spare : Nat → Bool} {held : Bool} {t e : TypeId} {fuel : Nat} {v : Value} {x : DataW H × List MemPlace}
    (ht : P.underlying t = some (.slice e)) (he : P.underlying e = some (.int .u8)) (hc : P.cellsOf e = 1) (h : DataW.trod enc P W 0 spare held fuel t [v] = some x) :
    ∃ B : List Nat, (∀ x ∈ B, x < 256) ∧ B.length ≤ maxLen ∧ SliceIs W 1 v B.length (bv B) := by
  rcases open_ints ht he hc h with ⟨hcs, _⟩ | ⟨a, len, cap, zs, hcs, _, hl, hm, hz, _, hcell, hwz⟩
  · simp only [List.cons.injEq, and_true] at hcs
    subst hcs
    exact ⟨[], by simp, by decide, rfl, .inl ⟨rfl, rfl⟩⟩
  · simp only [List.cons.injEq, and_true] at hcs
    subst hcs
    have hzl : len ≤ zs.length := by rw [hz]; split <;> omega
    have hlen : ((zs.take len).map Int.toNat).length = len := by simp; omega
    have wf : ∀ z ∈ zs, 0 ≤ z ∧ z < 256 := fun z hzz => by
      have := bounds_u8 (hwz z hzz)
      omega
    refine ⟨(zs.take len).map Int.toNat, ?_, by omega, by simp, .inr ⟨a, cap, by rw [hlen], by omega, hm, ?_⟩⟩
    · intro y hy
      obtain ⟨z, hz, rfl⟩ := List.mem_map.1 hy
      have := wf z (List.mem_of_mem_take hz)
      omega
    · intro j u hu
      have hj : j < len := by
        have := (List.getElem?_eq_some_iff.1 hu).1
        simp at this
        omega
      have hjz : j < zs.length := by omega
      rw [hcell j hjz, ← hu]
      have := wf zs[j] (List.getElem_mem hjz)
      simp [bv, hj, hjz, List.getD]
      omega

/-- What the struct's type must be. -/
structure ReadsType (P : Program) (t arr bytes u8 ops op : TypeId) (fs : Array Field) (f0 f1 : Field) : Prop where
  k_str : P.underlying t = some (.struct #[f0, f1])
  k_arr : P.underlying arr = some (.array 2 bytes)
  k_bytes : P.underlying bytes = some (.slice u8)
  k_u8 : P.underlying u8 = some (.int .u8)
  k_c8 : P.cellsOf u8 = 1
  k_cb : P.cellsOf bytes = 1
  k_ca : P.cellsOf arr = 2
  k_co : P.cellsOf ops = 1
  k_ops : P.underlying ops = some (.slice op)
  k_op : OpType P op fs
  k_t0 : f0.type = arr
  k_o0 : f0.offset = 0
  k_t1 : f1.type = ops
  k_o1 : f1.offset = 2
theorem reads_in {H : Type} {enc : TypeId × Value → H} {P : Program} {W : World} {spare : Nat → Bool} {held : Bool} {t arr bytes u8 ops op : TypeId} {fs : Array Field} {f0 f1 : Field} {cs : Array Value} {fuel : Nat} {x : DataW H × List MemPlace}
    (R : ReadsType P t arr bytes u8 ops op fs f0 f1) (hc : cs.size = 3) (h : DataW.trod enc P W 0 spare held fuel t cs.toList = some x) :
    ∃ (v0 v1 v2 : Value) (A B : List Nat) (l : List OpD), cs = #[v0, v1, v2] ∧ (∀ x ∈ A, x < 256) ∧ (∀ x ∈ B, x < 256) ∧ (∀ o ∈ l, o.ok) ∧ A.length ≤ maxLen ∧ B.length ≤ maxLen ∧
      SliceIs W 1 v0 A.length (bv A) ∧ SliceIs W 1 v1 B.length (bv B) ∧ SliceIs W 4 v2 l.length (opsv l) := by
  obtain ⟨v0, v1, v2, rfl⟩ : ∃ v0 v1 v2, cs = #[v0, v1, v2] := by
    obtain ⟨l⟩ := cs
    match l, hc with
    | [v0, v1, v2], _ => exact ⟨v0, v1, v2, rfl⟩
  obtain ⟨y0, y1, n, _, _, h0, h1⟩ := trod_struct2 R.k_str h
  rw [R.k_t0, R.k_o0, R.k_ca] at h0
  rw [R.k_t1, R.k_o1, R.k_co] at h1
  obtain ⟨xs, m, _, _, _, _, ha⟩ := DataW.trod_array R.k_arr h0
  rw [R.k_cb] at ha
  have ha0 := ha 0 (by decide)
  have ha1 := ha 1 (by decide)
  simp only [List.drop_zero, List.take_succ_cons, List.take_zero, Nat.zero_mul, Nat.one_mul, List.drop_succ_cons] at ha0 ha1 h1
  have g0 : ∃ z, xs[0]? = some z := by rename_i hx _; exact ⟨_, List.getElem?_eq_getElem (by omega)⟩
  have g1 : ∃ z, xs[1]? = some z := by rename_i hx _; exact ⟨_, List.getElem?_eq_getElem (by omega)⟩
  obtain ⟨z0, g0⟩ := g0
  obtain ⟨z1, g1⟩ := g1
  obtain ⟨A, hA, hAl, hAs⟩ := bytes_in R.k_bytes R.k_u8 R.k_c8 (ha0.trans g0)
  obtain ⟨B, hB, hBl, hBs⟩ := bytes_in R.k_bytes R.k_u8 R.k_c8 (ha1.trans g1)
  obtain ⟨a, l', c, rfl⟩ : ∃ a l c, v2 = .slice a l c := by
    rcases Go.Deep.open_slice R.k_ops h1 with ⟨hcs, _⟩ | ⟨ad, len', cap', m, n, D, Pl, hcs, _⟩
    · exact ⟨_, _, _, (List.cons.inj hcs).1⟩
    · exact ⟨_, _, _, (List.cons.inj hcs).1⟩
  obtain ⟨l, hl, hok, hls⟩ := ops_in R.k_ops R.k_op h1
  exact ⟨v0, v1, _, A, B, l, rfl, hA, hB, hok, hAl, hBl, hAs, hBs, hls⟩
end Go.SL
