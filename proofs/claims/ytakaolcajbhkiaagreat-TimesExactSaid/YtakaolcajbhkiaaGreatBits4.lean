/- There and back: bits into bytes and bits again. -/
import Derived.Test.YtakaolcajbhkiaaGreatBits3
namespace Go.Fm
set_option linter.unusedVariables false
set_option linter.unusedSimpArgs false

theorem bitsOf_bval (c : List Bool) : bitsOf (bval c) c.length = c := by
  induction c with
  | nil => rfl
  | cons b l ih =>
    have hl := bval_lt l
    have e1 : (b.toNat * 2 ^ l.length + bval l).testBit l.length = b := by
      rw [Nat.testBit_eq_decide_div_mod_eq, Nat.add_comm, Nat.add_mul_div_right _ _ (Nat.two_pow_pos _), Nat.div_eq_of_lt hl]
      cases b <;> simp
    have e2 : bitsOf (b.toNat * 2 ^ l.length + bval l) l.length = l := by
      rw [← bitsOf_mod _ l.length l.length (Nat.le_refl _), Nat.add_comm, Nat.add_mul_mod_self_right, Nat.mod_eq_of_lt hl, ih]
    simp only [bval, List.length_cons, bitsOf, e1, e2]
theorem bitsOf_mul (m b : Nat) : ∀ n, n ≤ b → bitsOf (m * 2 ^ b) n = List.replicate n false := by
  intro n
  induction n with
  | zero => intro _; rfl
  | succ n ih =>
    intro h
    simp only [bitsOf, ih (by omega), List.replicate_succ]
    congr 1
    rw [Nat.testBit_mul_two_pow]
    simp; omega
theorem bitsOf_byte (c : List Bool) (h : c.length ≤ 8) : bitsOf (byte c) 8 = c ++ List.replicate (8 - c.length) false := by
  have e : bitsOf (byte c) 8 = bitsOf (byte c / 2 ^ (8 - c.length)) c.length ++ bitsOf (byte c) (8 - c.length) := by
    rw [← bitsOf_split]
    congr 1
    omega
  rw [e]
  unfold byte
  rw [Nat.mul_div_cancel _ (Nat.two_pow_pos _), bitsOf_bval, bitsOf_mul _ _ _ (Nat.le_refl _)]
theorem unpack_full (L : List Bool) : ∀ k, 8 * k ≤ L.length → unpack ((List.range k).map fun i => byte ((L.drop (8 * i)).take 8)) = L.take (8 * k) := by
  intro k
  induction k with
  | zero => intro _; rfl
  | succ k ih =>
    intro h
    rw [List.range_succ, List.map_append, unpack_append, ih (by omega)]
    have hl : ((L.drop (8 * k)).take 8).length = 8 := by rw [List.length_take, List.length_drop]; omega
    show L.take (8 * k) ++ (bitsOf (byte ((L.drop (8 * k)).take 8)) 8 ++ []) = _
    rw [bitsOf_byte _ (by omega), hl, List.append_nil, Nat.sub_self, List.replicate_zero, List.append_nil, ← List.take_add]
    rfl
/-- What bytes hold: the bits, and spare noughts. -/
theorem unpack_pack (L : List Bool) : unpack (pack L) = L ++ List.replicate ((8 - L.length % 8) % 8) false := by
  unfold pack
  split
  · rename_i h
    unfold fullB
    rw [unpack_full L _ (by omega), List.take_of_length_le (by omega), h]
    simp
  · rename_i h
    unfold fullB
    rw [unpack_append, unpack_full L _ (by omega)]
    have ht := length_tailB L
    show _ ++ (bitsOf (byte (tailB L)) 8 ++ []) = _
    rw [bitsOf_byte _ (by omega), List.append_nil, ← List.append_assoc]
    unfold tailB at ht ⊢
    rw [List.take_append_drop, ht]
    congr 2
    omega
theorem pack_lt (L : List Bool) : ∀ x ∈ pack L, x < 256 := by
  have h1 : ∀ x ∈ fullB L, x < 256 := by
    intro x hx
    obtain ⟨i, _, rfl⟩ := List.mem_map.1 hx
    exact byte_lt _ (by rw [List.length_take]; omega)
  intro x hx
  unfold pack at hx
  split at hx
  · exact h1 x hx
  · rcases List.mem_append.1 hx with h | h
    · exact h1 x h
    · rw [List.mem_singleton.1 h]
      exact byte_lt _ (by rw [length_tailB]; omega)
theorem bval_replicate_false (n : Nat) : bval (List.replicate n false) = 0 := by
  induction n with
  | zero => rfl
  | succ n ih => simp [List.replicate_succ, bval, ih]
/-- Behind all that was laid only spare bits are left. -/
theorem end_spare (n : Nat) (h : n < 8) : (⟨List.replicate n false, 0⟩ : Rs).end_ = 0 := by
  unfold Rs.end_
  rw [if_neg (by simp), if_neg (by simp; omega), if_neg (by simp [bval_replicate_false])]
end Go.Fm
