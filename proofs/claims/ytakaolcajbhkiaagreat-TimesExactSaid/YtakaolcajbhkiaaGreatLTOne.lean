/- The law TimesOne, walked. -/
import Derived.Test.YtakaolcajbhkiaaGreatLTBack
import Derived.Deep.CutBlock
import Derived.Deep.DeepCutAuto
namespace Go.SL
open Go.RowKit Go.Fm
/-- The row of a place, in whatever world holds it. -/
theorem RowsSeen.place {α : Type} {F : List HProp} {f : α → List Value} {v : Value} {L : List α} (h : RowsSeen F f v L) {w : World} (hw : Holds w F) {i : Nat} (hi : i < L.length) :
    ∃ g off cap u, v = .slice (some ⟨g, off, none⟩) L.length cap ∧ L.length ≤ cap ∧ cap ≤ maxLen ∧ (∀ w', Holds w' F → w'.cell? ⟨g, off + i, none⟩ = some u) ∧ Sees F 1 u (f L[i]).length (f L[i]) := by
  obtain ⟨vs, h1, h2, h3⟩ := h
  obtain ⟨g, off, cap, hv, hc1, hc2, hc⟩ := (h2 w hw).at (by omega)
  have hiv : i < vs.length := by omega
  refine ⟨g, off, cap, vs[i], hv, hc1, hc2, fun w' hw' => ?_, h3 i _ _ (List.getElem?_eq_getElem hiv) (List.getElem?_eq_getElem hi)⟩
  rcases (h2 w' hw').2 with ⟨h0, _⟩ | ⟨ad, cp, h0, _, _, h5⟩
  · rw [hv] at h0; cases h0
  · rw [hv] at h0
    simp only [Value.slice.injEq, Option.some.injEq] at h0
    obtain ⟨rfl, _, _⟩ := h0
    have := h5 i _ (List.getElem?_eq_getElem hiv)
    rwa [add_plain'] at this
end Go.SL
namespace Go.Proofs.YtakaolcajbhkiaaGreat
open Go.RowKit Go.SL Go.Fm
set_option linter.unusedVariables false
set_option linter.unusedSimpArgs false

end Go.Proofs.YtakaolcajbhkiaaGreat
