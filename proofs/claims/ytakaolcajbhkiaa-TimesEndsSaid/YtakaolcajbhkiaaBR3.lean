/- The reader of bits: Unary. -/
import Derived.Test.YtakaolcajbhkiaaBR2
namespace Go.Proofs.Ytakaolcajbhkiaa
set_option linter.unusedVariables false
set_option linter.unusedSimpArgs false
open Go.RowKit Go.SL Go.Fm

theorem bval_one (l : List Bool) (j : Nat) (b : Bool) (h : l[j]? = some b) : bval ((l.drop j).take 1) = b.toNat := by
  obtain ⟨hlt, hb⟩ := List.getElem?_eq_some_iff.1 h
  rw [List.drop_eq_getElem_cons hlt, List.take_succ_cons, List.take_zero, hb]
  simp [bval]

end Go.Proofs.Ytakaolcajbhkiaa
