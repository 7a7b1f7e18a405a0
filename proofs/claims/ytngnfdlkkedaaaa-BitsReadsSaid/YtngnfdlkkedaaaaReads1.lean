/- The law BitsReads, walked: its words. -/
import Derived.Test.YtngnfdlkkedaaaaLTake
import Derived.Test.YtngnfdlkkedaaaaR8
import Derived.Test.YtngnfdlkkedaaaaLLend2
import Derived.Test.YtngnfdlkkedaaaaLOne
namespace Go.Proofs.Ytngnfdlkkedaaaa
open Go.RowKit Go.SL Go.Fm
set_option linter.unusedVariables false
set_option linter.unusedSimpArgs false

theorem and_one_i64 (x : Int) : bits .and .i64 x 1 = 0 ∨ bits .and .i64 x 1 = 1 := by
  unfold bits
  simp only []
  have h : (BitVec.ofInt IntKind.i64.bits x &&& BitVec.ofInt IntKind.i64.bits 1).toNat = (BitVec.ofInt IntKind.i64.bits x).toNat % 2 := by
    rw [BitVec.toNat_and]
    exact Nat.and_one_is_mod _
  rcases Nat.mod_two_eq_zero_or_one (BitVec.ofInt IntKind.i64.bits x).toNat with h0 | h0
  · left
    rw [h0] at h
    rw [h]
    decide
  · right
    rw [h0] at h
    rw [h]
    decide

theorem lent_is {v : Value} {B : List Nat} {w : World} {F : List HProp} (H : Holds w (lent v B :: F)) : SliceIs w 1 v B.length (bv B) := by
  obtain ⟨rest, H⟩ := Holds.elim H
  exact H.ownR_is
end Go.Proofs.Ytngnfdlkkedaaaa
