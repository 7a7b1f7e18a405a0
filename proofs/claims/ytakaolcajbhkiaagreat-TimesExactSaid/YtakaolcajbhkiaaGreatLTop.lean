/- From what a law's arguments read as to what the walks take. -/
import Derived.Test.YtakaolcajbhkiaaGreatObjs
import Derived.ProofKit
import Derived.OpenShut
import Derived.ChangeOld
namespace Go.SL
set_option linter.unusedVariables false
set_option linter.unusedSimpArgs false
open Go.RowKit Go.Fm Go.ChangeShapes Go.WideShapes

/-- The whole old world is held, and what a call leaves of it. -/
theorem below_of_holds {W w' : World} {l : List HProp} (h : Holds w' (l ++ [old W W.heap.size])) (hs : Str W w') : Below W.heap.size W w' := by
  have h' : Holds w' (old W W.heap.size :: (l ++ [])) := Holds.pull h
  exact Holds.below (Nat.le_refl _) h' hs

/-- A slice of the old world is seen. -/
theorem sees_start {W : World} {s n : Nat} {v : Value} {xs : List Value} (h : SliceIs W s v n xs) : Sees [old W W.heap.size] s v n xs := by
  refine sees_old h (Nat.le_refl _) ?_
  intro a l c hv hx
  obtain ⟨x, xs', rfl⟩ := List.exists_cons_of_ne_nil hx
  rcases h.2 with ⟨h0, _⟩ | ⟨ad, cap, h1, _, _, h2⟩
  · rw [h0] at hv; cases hv
  · rw [h1] at hv
    cases hv
    have := World.block_lt_of_cell? W _ (h2 0 x rfl)
    rwa [block_add] at this

theorem u64_wf {z : Int} (h : (Lit.int .u64 z).wf = true) : 0 ≤ z ∧ z < 18446744073709551616 := by
  have := bounds_u64 h
  omega

/-- A slice of uint64s that came in. -/
theorem words_in {W : World} {a : Option Addr} {len cap : Nat} {zs : List Int}
    (h : (a = none ∧ len = 0 ∧ cap = 0 ∧ zs = []) ∨ ∃ x, a = some x ∧ len ≤ cap ∧ cap ≤ maxLen ∧ zs.length = cap ∧ (∀ i, i < zs.length → W.cell? (x.add i) = some (.int .u64 (zs.getD i 0))) ∧ ∀ n ∈ zs, (Lit.int .u64 n).wf = true) :
    ∃ l : List Nat, l.length = len ∧ len ≤ maxLen ∧ (∀ x ∈ l, x < 18446744073709551616) ∧ SliceIs W 1 (.slice a len cap) l.length (uv l) := by
  rcases h with ⟨rfl, rfl, rfl, rfl⟩ | ⟨x, rfl, h1, h2, h3, h4, h5⟩
  · exact ⟨[], rfl, by decide, fun _ h => (by cases h), rfl, .inl ⟨rfl, rfl⟩⟩
  · have hlen : ((zs.take len).map Int.toNat).length = len := by simp; omega
    refine ⟨(zs.take len).map Int.toNat, hlen, by omega, ?_, by simp, .inr ⟨x, cap, by rw [hlen], by omega, h2, ?_⟩⟩
    · intro y hy
      obtain ⟨z, hz, rfl⟩ := List.mem_map.1 hy
      have := u64_wf (h5 z (List.mem_of_mem_take hz))
      omega
    · intro j u hu
      have hj : j < len := by
        have := (List.getElem?_eq_some_iff.1 hu).1
        simp at this
        omega
      have hjz : j < zs.length := by omega
      rw [h4 j hjz, ← hu]
      have := u64_wf (h5 zs[j] (List.getElem_mem hjz))
      simp [uv, hj, hjz, List.getD]
      omega
end Go.SL
