/- What a writer's calls do to its bits. -/
import Derived.Test.YtakaolcajbhkiaaGreatBits
namespace Go.Fm
set_option linter.unusedVariables false
set_option linter.unusedSimpArgs false

/-- A writer: its bits, its first refusal. -/
structure Ws where
  L : List Bool
  bad : Nat
def Ws.put (s : Ws) (c : List Bool) : Ws := if s.bad = 0 then ⟨s.L ++ c, s.bad⟩ else s
def Ws.refuse (s : Ws) (e : Nat) : Ws := if s.bad = 0 then ⟨s.L, e⟩ else s
def wide (X : Nat) (n : Int) : Bool := decide (n < 0) || decide (64 < n) || decide (2 ^ n.toNat ≤ X)
def Ws.bits (s : Ws) (X : Nat) (n : Int) : Ws := if wide X n = true then s.refuse 10 else s.put (bitsOf X n.toNat)
def Ws.bit (s : Ws) (b : Bool) : Ws := s.put [b]
def Ws.unary (s : Ws) (n : Int) : Ws := if n < 0 ∨ 64 < n then s.refuse 11 else s.put (List.replicate n.toNat true ++ [false])
/-- The groups of a Var. -/
def varBits (X : Nat) : List Bool := if X < 128 then bitsOf X 8 else bitsOf (128 + X % 128) 8 ++ varBits (X / 128)
termination_by X
decreasing_by omega
def Ws.var (s : Ws) (X : Nat) : Ws := s.put (varBits X)
def zigzag (x : Int) : Nat := if x < 0 then 2 * (-1 - x).toNat + 1 else 2 * x.toNat
def Ws.zig (s : Ws) (x : Int) : Ws := s.var (zigzag x)

theorem put_zero {s : Ws} (h : s.bad = 0) (c : List Bool) : s.put c = ⟨s.L ++ c, s.bad⟩ := if_pos h
theorem put_bad {s : Ws} (h : s.bad ≠ 0) (c : List Bool) : s.put c = s := if_neg h
theorem put_put (s : Ws) (c d : List Bool) : (s.put c).put d = s.put (c ++ d) := by
  by_cases h : s.bad = 0
  · simp [Ws.put, h]
  · simp [Ws.put, h]
theorem put_nil (s : Ws) : s.put [] = s := by
  by_cases h : s.bad = 0
  · rw [put_zero h, List.append_nil]
  · exact put_bad h _
theorem put_len (s : Ws) (c : List Bool) : (s.put c).L.length ≤ s.L.length + c.length := by
  by_cases h : s.bad = 0 <;> simp [Ws.put, h]
theorem put_le (s : Ws) (c : List Bool) : s.L.length ≤ (s.put c).L.length := by
  by_cases h : s.bad = 0 <;> simp [Ws.put, h]

theorem varBits_lt (X : Nat) (h : X < 128) : varBits X = bitsOf X 8 := by rw [varBits, if_pos h]
theorem varBits_ge (X : Nat) (h : ¬ X < 128) : varBits X = bitsOf (128 + X % 128) 8 ++ varBits (X / 128) := by rw [varBits, if_neg h]
/-- A Var has eight bits a group, a group for seven bits. -/
theorem length_varBits (n : Nat) : ∀ X, X < 128 ^ (n + 1) → (varBits X).length % 8 = 0 ∧ 8 ≤ (varBits X).length ∧ (varBits X).length ≤ 8 * (n + 1) := by
  induction n with
  | zero => intro X h; rw [varBits_lt X (by simpa using h)]; simp
  | succ n ih =>
    intro X h
    by_cases h1 : X < 128
    · rw [varBits_lt X h1]; simp; omega
    · rw [varBits_ge X h1]
      have h2 : X / 128 < 128 ^ (n + 1) := by
        rw [Nat.div_lt_iff_lt_mul (by decide)]
        rw [Nat.pow_succ] at h
        exact h
      obtain ⟨a, b, c⟩ := ih _ h2
      simp only [List.length_append, length_bitsOf]
      omega
theorem length_varBits_mono (Y : Nat) : ∀ X, X ≤ Y → (varBits X).length ≤ (varBits Y).length := by
  induction Y using Nat.strongRecOn with
  | _ Y ih =>
    intro X h
    by_cases hY : Y < 128
    · rw [varBits_lt X (by omega), varBits_lt Y hY]; simp
    · by_cases hX : X < 128
      · rw [varBits_lt X hX, varBits_ge Y hY]; simp
      · rw [varBits_ge X hX, varBits_ge Y hY]
        have := ih (Y / 128) (by omega) (X / 128) (Nat.div_le_div_right h)
        simp only [List.length_append, length_bitsOf]
        omega
theorem length_varBits64 (X : Nat) (h : X < 18446744073709551616) : (varBits X).length % 8 = 0 ∧ 8 ≤ (varBits X).length ∧ (varBits X).length ≤ 80 :=
  length_varBits 9 X (Nat.lt_trans h (by decide))

theorem refuse_L (s : Ws) (e : Nat) : (s.refuse e).L = s.L := by unfold Ws.refuse; split <;> rfl
theorem var_len (s : Ws) (X : Nat) (h : X < 18446744073709551616) : (s.var X).L.length ≤ s.L.length + 80 :=
  Nat.le_trans (put_len s _) (Nat.add_le_add_left (length_varBits64 X h).2.2 _)
theorem bits_len (s : Ws) (X : Nat) (n : Int) : (s.bits X n).L.length ≤ s.L.length + 64 := by
  unfold Ws.bits
  split
  · rw [refuse_L]; omega
  · rename_i h
    refine Nat.le_trans (put_len s _) ?_
    simp [wide] at h
    rw [length_bitsOf]
    omega
theorem unary_len (s : Ws) (n : Int) : (s.unary n).L.length ≤ s.L.length + 65 := by
  unfold Ws.unary
  split
  · rw [refuse_L]; omega
  · refine Nat.le_trans (put_len s _) ?_
    simp
    omega
theorem bit_len (s : Ws) (b : Bool) : (s.bit b).L.length ≤ s.L.length + 1 := put_len s _

theorem bitsOf_ones (n : Nat) : bitsOf (2 ^ n - 1) n = List.replicate n true := by
  have : ∀ m, m ≤ n → bitsOf (2 ^ n - 1) m = List.replicate m true := by
    intro m
    induction m with
    | zero => intro _; rfl
    | succ m ih =>
      intro h
      simp only [bitsOf, ih (by omega), List.replicate_succ]
      congr 1
      rw [Nat.testBit_two_pow_sub_one]
      simp; omega
  exact this n (Nat.le_refl n)
theorem bitsOf_zero_one : bitsOf 0 1 = [false] := by simp [bitsOf]
theorem bitsOf_one_one : bitsOf 1 1 = [true] := by decide

theorem zigzag_lt (x : Int) (h : -9223372036854775808 ≤ x) (h' : x ≤ 9223372036854775807) : zigzag x < 18446744073709551616 := by
  unfold zigzag
  split <;> omega
theorem zig_len (s : Ws) (x : Int) (h : -9223372036854775808 ≤ x) (h' : x ≤ 9223372036854775807) : (s.zig x).L.length ≤ s.L.length + 80 := var_len s _ (zigzag_lt x h h')
end Go.Fm
