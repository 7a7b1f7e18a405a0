/- The document's reader of bits: Bit, Back. -/
import Derived.Test.YtngnfdlkkedaaaaR4
namespace Go.Proofs.Ytngnfdlkkedaaaa
set_option linter.unusedVariables false
set_option linter.unusedSimpArgs false
open Go.RowKit Go.SL Go.Fm

theorem beq_one (a : Nat) : ((a : Int) == 1) = decide (a = 1) := by
  by_cases h : a = 1
  · subst h; rfl
  · rw [decide_eq_false h]; simp; omega
set_option maxRecDepth 100000 in
theorem rrBit_c (b : Nat) (s : Rs) (w : World) (F : List HProp) (H : Holds w (qS b s :: F)) :
    Calls Try.prog 58 #[.pointer (some ⟨b, 0, none⟩)] w (Ret w (.bool s.bit.1) (qS b s.bit.2 :: F)) := by
  have h1 := rrBits_c b 1 s w F H
  go_enter Try.func58, Try.ntmps58
  go_wp2_with (go_at_call 59; refine h1.mono ?_; rintro e w' ⟨rfl, H', S'⟩)
  go_ret
  exact ⟨ret_bool (beq_one _), H', S'⟩
set_option maxRecDepth 100000 in
theorem Back_c (u : Nat) (hu : u < 18446744073709551616) (w : World) : Calls Try.prog 101 #[.int .u64 u] w (fun e w' => e = .returned (.int .i64 (unzig u)) ∧ w' = w) := by
  unfold unzig
  by_cases h : u % 2 = 1
  · rw [if_pos h]
    have h2 : (u : Int) % 2 = 1 := by omega
    go_enter Try.func101, Try.ntmps101
    go_wp2
    go_ret
    refine ⟨ret_int ?_, rfl⟩
    omega
  · rw [if_neg h]
    have h2 : (u : Int) % 2 = 0 := by omega
    go_enter Try.func101, Try.ntmps101
    go_wp2
    go_ret
    refine ⟨ret_int ?_, rfl⟩
    omega
end Go.Proofs.Ytngnfdlkkedaaaa
