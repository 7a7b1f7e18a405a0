/- Rows of bits and their bytes: plain lists and numbers; no program is in sight. -/
import Derived.Laws.BitsLemmas
namespace Go.Fm
set_option linter.unusedVariables false
set_option linter.unusedSimpArgs false

/-- The number of bits, the highest first. -/
def bval : List Bool → Nat
  | [] => 0
  | b :: l => b.toNat * 2 ^ l.length + bval l

/-- The lowest n bits of a number, the highest first. -/
def bitsOf (X : Nat) : Nat → List Bool
  | 0 => []
  | n + 1 => X.testBit n :: bitsOf X n

/-- Up to eight bits as a byte: spare bits are 0. -/
def byte (l : List Bool) : Nat := bval l * 2 ^ (8 - l.length)

/-- The bytes that are whole. -/
def fullB (L : List Bool) : List Nat := (List.range (L.length / 8)).map fun i => byte ((L.drop (8 * i)).take 8)
/-- What stands behind them. -/
def tailB (L : List Bool) : List Bool := L.drop (8 * (L.length / 8))
/-- All bytes. -/
def pack (L : List Bool) : List Nat := if L.length % 8 = 0 then fullB L else fullB L ++ [byte (tailB L)]

@[simp] theorem length_bitsOf (X n : Nat) : (bitsOf X n).length = n := by
  induction n with
  | zero => rfl
  | succ n ih => simp [bitsOf, ih]

theorem bval_lt (l : List Bool) : bval l < 2 ^ l.length := by
  induction l with
  | nil => simp [bval]
  | cons b l ih =>
    simp only [bval, List.length_cons, Nat.pow_succ]
    cases b <;> simp <;> omega

theorem bval_append (l m : List Bool) : bval (l ++ m) = bval l * 2 ^ m.length + bval m := by
  induction l with
  | nil => simp [bval]
  | cons b l ih =>
    simp only [List.cons_append, bval, ih, List.length_append, Nat.pow_add, Nat.add_mul]
    rw [Nat.mul_assoc]
    omega

theorem bval_bitsOf (X n : Nat) : bval (bitsOf X n) = X % 2 ^ n := by
  induction n with
  | zero => simp [bitsOf, bval, Nat.mod_one]
  | succ n ih =>
    simp only [bitsOf, bval, ih, length_bitsOf]
    rw [Nat.testBit_eq_decide_div_mod_eq, Nat.pow_succ, Nat.mod_mul]
    have h := Nat.mod_two_eq_zero_or_one (X / 2 ^ n)
    rcases h with h | h <;> simp [h] <;> omega

/-- The highest bits first, then the rest. -/
theorem bitsOf_split (X a b : Nat) : bitsOf X (a + b) = bitsOf (X / 2 ^ b) a ++ bitsOf X b := by
  induction a with
  | zero => simp [bitsOf]
  | succ a ih =>
    have e : a + 1 + b = (a + b) + 1 := by omega
    rw [e]
    simp only [bitsOf, List.cons_append, ih]
    congr 1
    rw [Nat.testBit_div_two_pow]

theorem bitsOf_mod (X n m : Nat) (h : n ≤ m) : bitsOf (X % 2 ^ m) n = bitsOf X n := by
  induction n with
  | zero => rfl
  | succ n ih =>
    simp only [bitsOf, ih (by omega)]
    congr 1
    rw [Nat.testBit_mod_two_pow]
    simp [show n < m by omega]

theorem byte_nil : byte [] = 0 := by simp [byte, bval]
theorem byte_lt (l : List Bool) (h : l.length ≤ 8) : byte l < 256 := by
  unfold byte
  have h1 := bval_lt l
  calc bval l * 2 ^ (8 - l.length) < 2 ^ l.length * 2 ^ (8 - l.length) := Nat.mul_lt_mul_of_pos_right h1 (Nat.two_pow_pos _)
    _ = 2 ^ 8 := by rw [← Nat.pow_add]; congr 1; omega
    _ = 256 := by decide

/-- More bits into the spare ones. -/
theorem byte_append (l m : List Bool) (h : l.length + m.length ≤ 8) : byte (l ++ m) = byte l + bval m * 2 ^ (8 - l.length - m.length) := by
  unfold byte
  rw [bval_append, List.length_append, Nat.add_mul, Nat.mul_assoc, ← Nat.pow_add]
  congr 3
  · omega
  · omega

theorem length_tailB (L : List Bool) : (tailB L).length = L.length % 8 := by
  unfold tailB
  rw [List.length_drop]
  omega
theorem length_fullB (L : List Bool) : (fullB L).length = L.length / 8 := by simp [fullB]
theorem length_pack (L : List Bool) : (pack L).length = (L.length + 7) / 8 := by
  unfold pack
  split
  · rw [length_fullB]; omega
  · rw [List.length_append, length_fullB, List.length_singleton]; omega

theorem fullB_take (L c : List Bool) (k : Nat) (hk : k ≤ L.length / 8) : (List.range k).map (fun i => byte (((L ++ c).drop (8 * i)).take 8)) = (List.range k).map (fun i => byte ((L.drop (8 * i)).take 8)) := by
  apply List.map_congr_left
  intro i hi
  have hi := List.mem_range.1 hi
  congr 1
  rw [List.drop_append_of_le_length (by omega), List.take_append_of_le_length (by rw [List.length_drop]; omega)]

/-- Bits that fit into the last byte. -/
theorem pack_append (L c : List Bool) (hc : 0 < c.length) (h : L.length % 8 + c.length ≤ 8) : pack (L ++ c) = fullB L ++ [byte (tailB L ++ c)] := by
  have hdrop : (L ++ c).drop (8 * (L.length / 8)) = tailB L ++ c := by
    rw [List.drop_append_of_le_length (by omega)]; rfl
  unfold pack
  by_cases h8 : (L ++ c).length % 8 = 0
  · rw [if_pos h8]
    have hl : (L ++ c).length / 8 = L.length / 8 + 1 := by rw [List.length_append] at *; omega
    unfold fullB
    rw [hl, List.range_succ, List.map_append, fullB_take L c _ (Nat.le_refl _), List.map_singleton, hdrop, List.take_of_length_le]
    rw [List.length_append, length_tailB]
    exact h
  · rw [if_neg h8]
    have hl : (L ++ c).length / 8 = L.length / 8 := by rw [List.length_append] at *; omega
    unfold fullB
    rw [hl, fullB_take L c _ (Nat.le_refl _)]
    congr 2
    unfold tailB
    rw [hl, hdrop]
    rfl

/-- The bytes with one behind them that is begun, if the last one is whole. -/
theorem pack_open (L : List Bool) : (if L.length % 8 = 0 then pack L ++ [0] else pack L) = fullB L ++ [byte (tailB L)] := by
  unfold pack
  split
  · rename_i h
    have : tailB L = [] := List.eq_nil_of_length_eq_zero (by rw [length_tailB, h])
    rw [this, byte_nil]
  · rfl

/-- What the program reckons for the last byte. -/
theorem lay_byte (p : List Bool) (Y k : Nat) (hk : 0 < k) (h : p.length + k ≤ 8) :
    bits .or .u8 (byte p : Int) (bits .and .u8 ((Y : Int) % 256) ((2 ^ k - 1) % 256) * 2 ^ (8 - p.length - k) % 256) = (byte (p ++ bitsOf Y k) : Nat) := by
  have hp := byte_lt p (by omega)
  have e1 : ((2 : Int) ^ k - 1) % 256 = 2 ^ k - 1 := by
    have h1 : (2 : Nat) ^ k ≤ 2 ^ 8 := Nat.pow_le_pow_right (by decide) (by omega)
    have h2 : (1 : Nat) ≤ 2 ^ k := Nat.two_pow_pos k
    have h3 : ((2 ^ k : Nat) : Int) = (2 : Int) ^ k := by simp
    have h4 : ((2 ^ k : Nat) : Int) ≤ 256 := by have : (2 : Nat) ^ k ≤ 256 := by simpa using h1
                                                omega
    omega
  rw [e1, bits_mask .u8 8 (by decide) wraps_u8 k (by omega) _ (by omega) (by omega)]
  have e2 : ((Y : Int) % 256) % 2 ^ k = ((Y % 2 ^ k : Nat) : Int) := by
    have hd : (2 ^ k : Nat) ∣ 2 ^ 8 := Nat.pow_dvd_pow 2 (by omega)
    have : (Y % 256) % 2 ^ k = Y % 2 ^ k := Nat.mod_mod_of_dvd Y (by simpa using hd)
    rw [← this]
    simp
  rw [e2]
  have hv : Y % 2 ^ k < 2 ^ k := Nat.mod_lt _ (Nat.two_pow_pos k)
  have hs : Y % 2 ^ k * 2 ^ (8 - p.length - k) < 2 ^ (8 - p.length) := by
    calc Y % 2 ^ k * 2 ^ (8 - p.length - k) < 2 ^ k * 2 ^ (8 - p.length - k) := Nat.mul_lt_mul_of_pos_right hv (Nat.two_pow_pos _)
      _ = 2 ^ (8 - p.length) := by rw [← Nat.pow_add]; congr 1; omega
  have hs8 : (2 : Nat) ^ (8 - p.length) ≤ 2 ^ 8 := Nat.pow_le_pow_right (by decide) (by omega)
  have e3 : ((Y % 2 ^ k : Nat) : Int) * 2 ^ (8 - p.length - k) % 256 = ((Y % 2 ^ k * 2 ^ (8 - p.length - k) : Nat) : Int) := by
    have : ((Y % 2 ^ k : Nat) : Int) * 2 ^ (8 - p.length - k) = ((Y % 2 ^ k * 2 ^ (8 - p.length - k) : Nat) : Int) := by simp
    rw [this]
    have hlt : Y % 2 ^ k * 2 ^ (8 - p.length - k) < 256 := by simp at hs8; omega
    omega
  rw [e3]
  have hm : byte p % 2 ^ (8 - p.length) = 0 := by unfold byte; exact Nat.mul_mod_left _ _
  have hpi : ((byte p : Nat) : Int) % 2 ^ (8 - p.length) = 0 := by
    have : ((byte p % 2 ^ (8 - p.length) : Nat) : Int) = 0 := by rw [hm]; rfl
    simpa using this
  have hsi : ((Y % 2 ^ k * 2 ^ (8 - p.length - k) : Nat) : Int) < 2 ^ (8 - p.length) := by
    have : ((2 ^ (8 - p.length) : Nat) : Int) = (2 : Int) ^ (8 - p.length) := by simp
    rw [← this]
    omega
  rw [bits_join .u8 8 (by decide) wraps_u8 (8 - p.length) _ _ (by omega) hpi (by omega) (by omega) hsi (by simp at hs8; omega)]
  rw [byte_append p (bitsOf Y k) (by simpa using h), bval_bitsOf, length_bitsOf]
  simp

end Go.Fm
