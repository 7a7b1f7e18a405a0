/- The law TimesBack, walked. -/
import Derived.Test.YtakaolcajbhkiaaGreatLTm
import Derived.Test.YtakaolcajbhkiaaGreatLRows
import Derived.Test.YtakaolcajbhkiaaGreatTm3
import Derived.WalkSpells
namespace Go.SL
open Go.RowKit Go.Fm
/-- The beginning of a slice that is seen. -/
theorem sees_take {F : List HProp} {a : Addr} {n c m : Nat} {xs : List Value} (h : Sees F 1 (.slice (some a) n c) n xs) (hm : m ≤ n) : Sees F 1 (.slice (some a) m c) m (xs.take m) := by
  intro w hw
  obtain ⟨hl, h⟩ := h w hw
  rcases h with ⟨h0, _⟩ | ⟨ad, cp, h0, h1, h2, h3⟩
  · cases h0
  · simp only [Value.slice.injEq, Option.some.injEq] at h0
    obtain ⟨rfl, _, rfl⟩ := h0
    refine ⟨by rw [List.length_take]; omega, .inr ⟨a, c, rfl, by omega, h2, fun j x hj => h3 j x ?_⟩⟩
    rw [List.getElem?_take] at hj
    split at hj
    · exact hj
    · cases hj
theorem is_take {w : World} {a : Addr} {n c m : Nat} {xs : List Value} (h : SliceIs w 1 (.slice (some a) n c) n xs) (hm : m ≤ n) : SliceIs w 1 (.slice (some a) m c) m (xs.take m) := by
  obtain ⟨hl, h⟩ := h
  rcases h with ⟨h0, _⟩ | ⟨ad, cp, h0, h1, h2, h3⟩
  · cases h0
  · simp only [Value.slice.injEq, Option.some.injEq] at h0
    obtain ⟨rfl, _, rfl⟩ := h0
    refine ⟨by rw [List.length_take]; omega, .inr ⟨a, c, rfl, by omega, h2, fun j x hj => h3 j x ?_⟩⟩
    rw [List.getElem?_take] at hj
    split at hj
    · exact hj
    · cases hj
theorem iv_take (l : List Int) (m : Nat) : iv (l.take m) = (iv l).take m := by simp [iv, List.map_take]
theorem bv_take (l : List Nat) (m : Nat) : bv (l.take m) = (bv l).take m := by simp [bv, List.map_take]
end Go.SL
namespace Go.Proofs.YtakaolcajbhkiaaGreat
open Go.RowKit Go.SL Go.Fm
set_option linter.unusedVariables false
set_option linter.unusedSimpArgs false

end Go.Proofs.YtakaolcajbhkiaaGreat
