/- The reader of bits: Zig; From. -/
import Derived.Test.YtakaolcajbhkiaaBR4
import Derived.Laws.DeepNot64
namespace Go.Proofs.Ytakaolcajbhkiaa
set_option linter.unusedVariables false
set_option linter.unusedSimpArgs false
open Go.RowKit Go.SL Go.Fm

theorem bits_xor_comm (k : IntKind) (a b : Int) : bits .xor k a b = bits .xor k b a := by simp only [bits, BitVec.xor_comm]
theorem xor_zero_i64 (a : Nat) (ha : a < 9223372036854775808) : bits .xor .i64 (a : Int) 0 = a := by
  have e : (BitVec.ofInt 64 (a : Int) ^^^ BitVec.ofInt 64 0).toNat = a := by
    rw [show (BitVec.ofInt 64 0) = 0#64 from rfl, BitVec.xor_zero, BitVec.ofInt_natCast, BitVec.toNat_ofNat, Nat.mod_eq_of_lt (by omega)]
  show IntKind.i64.wrap ((BitVec.ofInt 64 (a : Int) ^^^ BitVec.ofInt 64 0).toNat : Int) = a
  rw [e]
  exact IntWalk.i64_in _ (by omega)
/-- What the program reckons for a Zig's number. -/
theorem unzig_num (u : Nat) (hu : u < 18446744073709551616) : bits .xor .i64 (wrap64 ((u : Int) / 2)) (wrap64 (-wrap64 (bits .and .u64 (u : Int) 1))) = unzig u := by
  have hw : ∀ n : Int, 0 ≤ n → n < 2 ^ 64 → IntKind.u64.wrap n = n := fun n a b => IntWalk.u64_in n (by omega)
  have e : bits .and .u64 (u : Int) 1 = (u : Int) % 2 := bits_mask .u64 64 (by decide) hw 1 (by decide) _ (by omega) (by omega)
  have e1 : wrap64 ((u : Int) / 2) = ((u / 2 : Nat) : Int) := by unfold wrap64; omega
  rw [e, e1]
  unfold unzig
  split
  · rename_i h
    have e2 : wrap64 (-wrap64 ((u : Int) % 2)) = -1 := by unfold wrap64; omega
    rw [e2, bits_xor_comm, i64_not _ (by omega)]
  · rename_i h
    have e2 : wrap64 (-wrap64 ((u : Int) % 2)) = 0 := by unfold wrap64; omega
    rw [e2, xor_zero_i64 _ (by omega)]

theorem varGo_lt (n : Nat) : ∀ (L : List Bool) (k x y : Nat) (l : List Bool), L.length = n → k ≤ 9 → x < 2 ^ (7 * k) → varGo L k x = .inr (y, l) → y < 18446744073709551616 := by
  induction n using Nat.strongRecOn with
  | _ n ih =>
    intro L k x y l hn hk hx h
    by_cases h8 : L.length < 8
    · rw [varGo_short h8] at h; cases h
    by_cases hf : (k = 9 ∧ 1 < bval (L.take 8)) ∨ (0 < k ∧ bval (L.take 8) = 0)
    · rw [varGo_form h8 hf] at h; cases h
    by_cases h128 : 128 ≤ bval (L.take 8)
    · rw [varGo_more h8 hf h128] at h
      exact ih (L.drop 8).length (by rw [List.length_drop]; omega) _ _ _ _ _ rfl (by omega) (var_bound x _ k hx) h
    · rw [varGo_done h8 hf h128] at h
      simp only [Sum.inr.injEq, Prod.mk.injEq] at h
      rw [← h.1]
      by_cases h9 : k = 9
      · subst h9
        have h1 : bval (L.take 8) % 128 ≤ 1 := by omega
        have h2 : bval (L.take 8) % 128 * 2 ^ (7 * 9) ≤ 1 * 2 ^ (7 * 9) := Nat.mul_le_mul_right _ h1
        have h3 : (2 : Nat) ^ (7 * 9) = 9223372036854775808 := by decide
        omega
      · have h1 := var_bound x (bval (L.take 8)) k hx
        have h2 : 2 ^ (7 * (k + 1)) ≤ 2 ^ 63 := Nat.pow_le_pow_right (by decide) (by omega)
        have h3 : (2 : Nat) ^ 63 = 9223372036854775808 := by decide
        omega
theorem var_lt (s : Rs) : s.var.1 < 18446744073709551616 := by
  unfold Rs.var
  split
  · exact Nat.two_pow_pos 64
  · split
    · exact Nat.two_pow_pos 64
    · rename_i x l h
      exact varGo_lt _ _ _ _ _ _ rfl (by decide) (by decide) h

set_option maxRecDepth 100000 in
theorem From_c (v : Value) (B : List Nat) (w : World) (F : List HProp) (H : Holds w F) (hv : SliceIs w 1 v B.length (bv B)) (hB : ∀ x ∈ B, x < 256) (hl : B.length ≤ 1000000000000) :
    Calls Try.prog 18 #[v] w (fun e w' => ∃ b, e = .returned (.pointer (some ⟨b, 0, none⟩)) ∧ Holds w' (rS b ⟨unpack B, 0⟩ :: F) ∧ Str w w') := by
  go_enter Try.func18, Try.ntmps18
  go_wp2_with (go_at_call 25; refine (clone_c v _ _ w _ H hv bv_cell (by omega)).mono ?_; rintro e w' ⟨v', rfl, H', S'⟩; obtain ⟨a, c, rfl⟩ := own_shape H')
  go_ret
  exact ⟨_, rfl, rS_shut (s := ⟨unpack B, 0⟩) (B := B) (p := 0) (by omega) hl hB (by simp) (H'.alloc _), S'.alloc _⟩
end Go.Proofs.Ytakaolcajbhkiaa
