/- What the laws of bits share: num; works. -/
import Derived.Test.YtakaolcajbhkiaaGreatBR
namespace Go.Proofs.YtakaolcajbhkiaaGreat
set_option linter.unusedVariables false
set_option linter.unusedSimpArgs false
open Go.RowKit Go.SL Go.Fm

theorem new_writer {w : World} {F : List HProp} (H : Holds w F) : Holds (w.alloc (.cells #[.slice none 0 0, .int .i64 0, .int .i64 0] 80)) (wS w.heap.size ⟨[], 0⟩ :: F) :=
  wr_shut (v := .slice none 0 0) (Holds.swap ((H.alloc (.cells #[.slice none 0 0, .int .i64 0, .int .i64 0] 80)).own_nil (s := 1)))

theorem works_bits : ((((⟨[], 0⟩ : Ws).bits 5 3).var 300).zig (-1)) = ⟨[true, false, true, true, false, true, false, true, true, false, false, false, false, false, false, false, false, true, false, false, false, false, false, false, false, false, true], 0⟩ := by
  have e1 : (⟨[], 0⟩ : Ws).bits 5 3 = ⟨[true, false, true], 0⟩ := rfl
  have e2 : zigzag (-1) = 1 := rfl
  unfold Ws.zig Ws.var
  rw [e1, e2, varBits_ge 300 (by decide), varBits_lt (300 / 128) (by decide), varBits_lt 1 (by decide)]
  rfl

theorem works_r1 : (⟨unpack [181, 128, 64, 32], 0⟩ : Rs).bits 3 = (5, ⟨(unpack [181, 128, 64, 32]).drop 3, 0⟩) := rfl
theorem works_r2 : (⟨(unpack [181, 128, 64, 32]).drop 3, 0⟩ : Rs).var = (300, ⟨(unpack [181, 128, 64, 32]).drop 19, 0⟩) := by
  unfold Rs.var
  rw [if_neg (by decide), varGo_more (by decide) (by decide) (by decide), varGo_done (by decide) (by decide) (by decide)]
  rfl
theorem works_r3 : (⟨(unpack [181, 128, 64, 32]).drop 19, 0⟩ : Rs).zig = (-1, ⟨(unpack [181, 128, 64, 32]).drop 27, 0⟩) := by
  have e : (⟨(unpack [181, 128, 64, 32]).drop 19, 0⟩ : Rs).var = (1, ⟨(unpack [181, 128, 64, 32]).drop 27, 0⟩) := by
    unfold Rs.var
    rw [if_neg (by decide), varGo_done (by decide) (by decide) (by decide)]
    rfl
  unfold Rs.zig
  rw [e]
  rfl
theorem works_r4 : ((unpack [181, 128, 64, 32]).drop 27).length = 5 := rfl
theorem works_r5 : (⟨(unpack [181, 128, 64, 32]).drop 27, 0⟩ : Rs).end_ = 0 := rfl

end Go.Proofs.YtakaolcajbhkiaaGreat
