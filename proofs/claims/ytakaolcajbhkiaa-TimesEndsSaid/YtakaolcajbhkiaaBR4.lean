/- The reader of bits: Var, Zig; From. -/
import Derived.Test.YtakaolcajbhkiaaBR3
namespace Go.Proofs.Ytakaolcajbhkiaa
set_option linter.unusedVariables false
set_option linter.unusedSimpArgs false
open Go.RowKit Go.SL Go.Fm

/-- The pieces of a Var's rounds. -/
theorem varGo_short {L : List Bool} {k x : Nat} (h : L.length < 8) : varGo L k x = .inl 12 := by rw [varGo, dif_pos h]
theorem varGo_form {L : List Bool} {k x : Nat} (h : ¬ L.length < 8) (h2 : (k = 9 ∧ 1 < bval (L.take 8)) ∨ (0 < k ∧ bval (L.take 8) = 0)) : varGo L k x = .inl 13 := by rw [varGo, dif_neg h, if_pos h2]
theorem varGo_more {L : List Bool} {k x : Nat} (h : ¬ L.length < 8) (h2 : ¬ ((k = 9 ∧ 1 < bval (L.take 8)) ∨ (0 < k ∧ bval (L.take 8) = 0))) (h3 : 128 ≤ bval (L.take 8)) :
    varGo L k x = varGo (L.drop 8) (k + 1) (x + bval (L.take 8) % 128 * 2 ^ (7 * k)) := by rw [varGo, dif_neg h, if_neg h2, if_pos h3]
theorem varGo_done {L : List Bool} {k x : Nat} (h : ¬ L.length < 8) (h2 : ¬ ((k = 9 ∧ 1 < bval (L.take 8)) ∨ (0 < k ∧ bval (L.take 8) = 0))) (h3 : ¬ 128 ≤ bval (L.take 8)) :
    varGo L k x = .inr (x + bval (L.take 8) % 128 * 2 ^ (7 * k), L.drop 8) := by rw [varGo, dif_neg h, if_neg h2, if_neg h3]

/-- What the program reckons for a group. -/
theorem var_num (x g k : Nat) (hx : x < 2 ^ (7 * k)) (hk : k ≤ 9) (h9 : k = 9 → g ≤ 1) (hg : g < 256) :
    bits .or .u64 (x : Int) (IntKind.u64.wrap (bits .and .u64 (g : Int) 127 * 2 ^ (7 * k))) = ((x + g % 128 * 2 ^ (7 * k) : Nat) : Int) := by
  have hw : ∀ n : Int, 0 ≤ n → n < 2 ^ 64 → IntKind.u64.wrap n = n := fun n a b => IntWalk.u64_in n (by omega)
  have e : bits .and .u64 (g : Int) 127 = (g : Int) % 128 := bits_mask .u64 64 (by decide) hw 7 (by decide) _ (by omega) (by omega)
  have e3 : (g : Int) % 128 * 2 ^ (7 * k) = ((g % 128 * 2 ^ (7 * k) : Nat) : Int) := by simp
  have hlt : g % 128 * 2 ^ (7 * k) < 2 ^ 64 := by
    by_cases h : k = 9
    · subst h
      have : g % 128 ≤ 1 := by have := h9 rfl; omega
      calc g % 128 * 2 ^ (7 * 9) ≤ 1 * 2 ^ (7 * 9) := Nat.mul_le_mul_right _ this
        _ < 2 ^ 64 := by decide
    · have h1 : 2 ^ (7 * k) ≤ 2 ^ 56 := Nat.pow_le_pow_right (by decide) (by omega)
      calc g % 128 * 2 ^ (7 * k) ≤ 127 * 2 ^ 56 := Nat.mul_le_mul (by omega) h1
        _ < 2 ^ 64 := by decide
  have h64 : (2 : Nat) ^ 64 = 18446744073709551616 := by decide
  have hx2 : 2 ^ (7 * k) ≤ 2 ^ 63 := Nat.pow_le_pow_right (by decide) (by omega)
  have h63 : (2 : Nat) ^ 63 = 9223372036854775808 := by decide
  rw [e, e3]
  rw [IntWalk.u64_in _ (by omega), bits_or_comm]
  have hd : ((g % 128 * 2 ^ (7 * k) : Nat) : Int) % 2 ^ (7 * k) = 0 := by simp
  have hxi : (x : Int) < 2 ^ (7 * k) := by
    have : ((2 ^ (7 * k) : Nat) : Int) = 2 ^ (7 * k) := by simp
    rw [← this]; omega
  rw [bits_join .u64 64 (by decide) hw (7 * k) _ _ (by omega) hd (by omega) (by omega) hxi (by omega)]
  omega
theorem var_bound (x g k : Nat) (hx : x < 2 ^ (7 * k)) : x + g % 128 * 2 ^ (7 * k) < 2 ^ (7 * (k + 1)) := by
  have : g % 128 + 1 ≤ 128 := by omega
  have h1 : (g % 128 + 1) * 2 ^ (7 * k) ≤ 128 * 2 ^ (7 * k) := Nat.mul_le_mul_right _ this
  rw [show 7 * (k + 1) = 7 + 7 * k by omega, Nat.pow_add]
  rw [Nat.add_mul] at h1
  have : (2 : Nat) ^ 7 = 128 := by decide
  omega

end Go.Proofs.Ytakaolcajbhkiaa
