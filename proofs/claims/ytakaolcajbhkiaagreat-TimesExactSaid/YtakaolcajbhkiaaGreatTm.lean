/- Rows of rising times in bits, in plain Lean: there and back. -/
import Derived.Test.YtakaolcajbhkiaaGreatOne
namespace Go.Fm
set_option linter.unusedVariables false
set_option linter.unusedSimpArgs false
open Go.RowKit Go.SL

def u64 (x : Int) : Nat := (x % 18446744073709551616).toNat
theorem u64_wrap (x : Int) : IntKind.u64.wrap x = (u64 x : Int) := by
  simp only [IntKind.wrap, IntKind.bits, IntKind.signed, u64]
  simp
  omega
theorem u64_lt (x : Int) : u64 x < 18446744073709551616 := by unfold u64; omega
theorem u64_nat (n : Nat) (h : n < 18446744073709551616) : u64 (n : Int) = n := by unfold u64; omega

/-- The bits of a zigzag. -/
def tbits (u : Nat) : List Bool :=
  if u = 0 then [false]
  else if u < 129 then [true, false] ++ bitsOf (u - 1) 7
  else if u < 4225 then [true, true, false] ++ bitsOf (u - 129) 12
  else if u < 1052801 then [true, true, true, false] ++ bitsOf (u - 4225) 20
  else [true, true, true, true] ++ bitsOf u 64
theorem tbits_len (u : Nat) : (tbits u).length = if u = 0 then 1 else if u < 129 then 9 else if u < 4225 then 15 else if u < 1052801 then 24 else 68 := by
  unfold tbits
  split
  · rfl
  split
  · simp [length_bitsOf]
  split
  · simp [length_bitsOf]
  split <;> simp [length_bitsOf]
theorem tbits_le (u : Nat) : (tbits u).length ≤ 68 := by
  rw [tbits_len]
  split
  · omega
  split
  · omega
  split
  · omega
  split <;> omega

/-- The ones in front, at most m. -/
def tOnes : Nat → Rs → Nat × Rs
  | 0, s => (0, s)
  | m + 1, s => if s.bit.1 = true then ((tOnes m s.bit.2).1 + 1, (tOnes m s.bit.2).2) else (0, s.bit.2)
theorem tOnes_le (m : Nat) : ∀ s, (tOnes m s).1 ≤ m := by
  induction m with
  | zero => intro s; exact Nat.le_refl _
  | succ m ih =>
    intro s
    unfold tOnes
    split
    · have := ih s.bit.2; simp only; omega
    · simp
/-- A zigzag is taken. -/
def tkW (n : Nat) (r : Rs) : (Nat × Bool) × Rs :=
  if n = 0 then ((0, true), r) else if n = 1 then (((r.bits 7).1 + 1, true), (r.bits 7).2) else if n = 2 then (((r.bits 12).1 + 129, true), (r.bits 12).2)
  else if n = 3 then (((r.bits 20).1 + 4225, true), (r.bits 20).2) else if (r.bits 64).1 < 1052801 then ((0, false), (r.bits 64).2) else (((r.bits 64).1, true), (r.bits 64).2)
def Rs.tk (s : Rs) : (Nat × Bool) × Rs := tkW (tOnes 4 s).1 (tOnes 4 s).2

theorem tOnes_rep (n : Nat) : ∀ m R, n < m → tOnes m ⟨List.replicate n true ++ false :: R, 0⟩ = (n, ⟨R, 0⟩) := by
  induction n with
  | zero =>
    intro m R h
    cases m with
    | zero => omega
    | succ m =>
      rw [List.replicate_zero, List.nil_append, tOnes, take_bit]
      simp
  | succ n ih =>
    intro m R h
    cases m with
    | zero => omega
    | succ m =>
      rw [List.replicate_succ, List.cons_append, tOnes, take_bit]
      simp only [reduceIte]
      rw [ih m R (by omega)]
theorem tOnes_full (m : Nat) : ∀ R, tOnes m ⟨List.replicate m true ++ R, 0⟩ = (m, ⟨R, 0⟩) := by
  induction m with
  | zero => intro R; rfl
  | succ m ih =>
    intro R
    rw [List.replicate_succ, List.cons_append, tOnes, take_bit]
    simp only [reduceIte]
    rw [ih R]
theorem tkW1 (r : Rs) : tkW 1 r = (((r.bits 7).1 + 1, true), (r.bits 7).2) := by
  unfold tkW
  rw [if_neg (by decide), if_pos rfl]
theorem tkW2 (r : Rs) : tkW 2 r = (((r.bits 12).1 + 129, true), (r.bits 12).2) := by
  unfold tkW
  rw [if_neg (by decide), if_neg (by decide), if_pos rfl]
theorem tkW3 (r : Rs) : tkW 3 r = (((r.bits 20).1 + 4225, true), (r.bits 20).2) := by
  unfold tkW
  rw [if_neg (by decide), if_neg (by decide), if_neg (by decide), if_pos rfl]
theorem tkW4_no (r : Rs) (h : (r.bits 64).1 < 1052801) : tkW 4 r = ((0, false), (r.bits 64).2) := by
  unfold tkW
  rw [if_neg (by decide), if_neg (by decide), if_neg (by decide), if_neg (by decide), if_pos h]
theorem tkW4_ok (r : Rs) (h : ¬ (r.bits 64).1 < 1052801) : tkW 4 r = (((r.bits 64).1, true), (r.bits 64).2) := by
  unfold tkW
  rw [if_neg (by decide), if_neg (by decide), if_neg (by decide), if_neg (by decide), if_neg h]
theorem tk_of {s r : Rs} {n : Nat} (h : tOnes 4 s = (n, r)) : s.tk = tkW n r := by
  unfold Rs.tk
  rw [h]
theorem tk_r0 (R : List Bool) : (⟨[false] ++ R, 0⟩ : Rs).tk = ((0, true), ⟨R, 0⟩) := by
  have h : tOnes 4 ⟨List.replicate 0 true ++ false :: R, 0⟩ = (0, ⟨R, 0⟩) := tOnes_rep 0 4 R (by decide)
  rw [List.replicate_zero, List.nil_append] at h
  rw [List.singleton_append, tk_of h]
  unfold tkW
  rw [if_pos rfl]
theorem tk_r1 (x : Nat) (h : x < 2 ^ 7) (R : List Bool) : (⟨[true, false] ++ (bitsOf x 7 ++ R), 0⟩ : Rs).tk = ((x + 1, true), ⟨R, 0⟩) := by
  have h1 := tOnes_rep 1 4 (bitsOf x 7 ++ R) (by decide)
  have hb : (⟨bitsOf x 7 ++ R, 0⟩ : Rs).bits 7 = (x, ⟨R, 0⟩) := take_bits x 7 (by decide) h R
  have e : [true, false] ++ (bitsOf x 7 ++ R) = List.replicate 1 true ++ false :: (bitsOf x 7 ++ R) := rfl
  rw [e, tk_of h1, tkW1, hb]
theorem tk_r2 (x : Nat) (h : x < 2 ^ 12) (R : List Bool) : (⟨[true, true, false] ++ (bitsOf x 12 ++ R), 0⟩ : Rs).tk = ((x + 129, true), ⟨R, 0⟩) := by
  have h1 := tOnes_rep 2 4 (bitsOf x 12 ++ R) (by decide)
  have hb : (⟨bitsOf x 12 ++ R, 0⟩ : Rs).bits 12 = (x, ⟨R, 0⟩) := take_bits x 12 (by decide) h R
  have e : [true, true, false] ++ (bitsOf x 12 ++ R) = List.replicate 2 true ++ false :: (bitsOf x 12 ++ R) := rfl
  rw [e, tk_of h1, tkW2, hb]
theorem tk_r3 (x : Nat) (h : x < 2 ^ 20) (R : List Bool) : (⟨[true, true, true, false] ++ (bitsOf x 20 ++ R), 0⟩ : Rs).tk = ((x + 4225, true), ⟨R, 0⟩) := by
  have h1 := tOnes_rep 3 4 (bitsOf x 20 ++ R) (by decide)
  have hb : (⟨bitsOf x 20 ++ R, 0⟩ : Rs).bits 20 = (x, ⟨R, 0⟩) := take_bits x 20 (by decide) h R
  have e : [true, true, true, false] ++ (bitsOf x 20 ++ R) = List.replicate 3 true ++ false :: (bitsOf x 20 ++ R) := rfl
  rw [e, tk_of h1, tkW3, hb]
theorem tk_r4 (x : Nat) (h : x < 2 ^ 64) (hx : ¬ x < 1052801) (R : List Bool) : (⟨[true, true, true, true] ++ (bitsOf x 64 ++ R), 0⟩ : Rs).tk = ((x, true), ⟨R, 0⟩) := by
  have h1 := tOnes_full 4 (bitsOf x 64 ++ R)
  have hb : (⟨bitsOf x 64 ++ R, 0⟩ : Rs).bits 64 = (x, ⟨R, 0⟩) := take_bits x 64 (by decide) h R
  have e : [true, true, true, true] ++ (bitsOf x 64 ++ R) = List.replicate 4 true ++ (bitsOf x 64 ++ R) := rfl
  rw [e, tk_of h1, tkW4_ok _ (by rw [hb]; exact hx), hb]
theorem tk_tbits (u : Nat) (hu : u < 18446744073709551616) (R : List Bool) : (⟨tbits u ++ R, 0⟩ : Rs).tk = ((u, true), ⟨R, 0⟩) := by
  unfold tbits
  by_cases h0 : u = 0
  · subst h0
    rw [if_pos rfl, tk_r0]
  rw [if_neg h0]
  by_cases h1 : u < 129
  · rw [if_pos h1, List.append_assoc, tk_r1 _ (by omega), Nat.sub_add_cancel (by omega)]
  rw [if_neg h1]
  by_cases h2 : u < 4225
  · rw [if_pos h2, List.append_assoc, tk_r2 _ (by omega), Nat.sub_add_cancel (by omega)]
  rw [if_neg h2]
  by_cases h3 : u < 1052801
  · rw [if_pos h3, List.append_assoc, tk_r3 _ (by omega), Nat.sub_add_cancel (by omega)]
  · rw [if_neg h3, List.append_assoc, tk_r4 _ hu h3]
theorem bit_of_bad {s : Rs} (h : s.bad ≠ 0) : s.bit = (false, s) := by
  have e := bits_of_bad h 1
  have e1 : (s.bits 1).1 = 0 := by
    unfold Rs.bits
    split
    · rfl
    · split
      · rfl
      · simp [h]
  unfold Rs.bit
  rw [e1, e]
  rfl
theorem bit_got (s : Rs) (h : s.bit.2.bad = 0) : s.bad = 0 ∧ s.L = s.bit.1 :: s.bit.2.L := by
  have h1 := bits_got s 1 h
  obtain ⟨h0, hl, hv, hd⟩ := h1
  refine ⟨h0, ?_⟩
  have hd : s.bit.2.L = s.L.drop 1 := hd
  have hv : s.bit.1 = decide (bval (s.L.take 1) = 1) := by
    show decide ((s.bits 1).1 = 1) = _
    have hv' : (s.bits 1).1 = bval (s.L.take 1) := hv
    rw [hv']
  rw [hd, hv]
  cases hs : s.L with
  | nil => rw [hs] at hl; simp at hl
  | cons b l => cases b <;> simp [bval]
theorem tOnes_got (m : Nat) : ∀ s, (tOnes m s).2.bad = 0 → s.bad = 0 ∧ s.L = List.replicate (tOnes m s).1 true ++ (if (tOnes m s).1 < m then [false] else []) ++ (tOnes m s).2.L := by
  induction m with
  | zero => intro s h; exact ⟨h, by simp [tOnes]⟩
  | succ m ih =>
    intro s h
    unfold tOnes at h ⊢
    by_cases hb : s.bit.1 = true
    · simp only [if_pos hb] at h ⊢
      obtain ⟨h1, h2⟩ := ih _ h
      obtain ⟨h3, h4⟩ := bit_got s h1
      refine ⟨h3, ?_⟩
      rw [h4, hb, List.replicate_succ, List.cons_append, List.cons_append]
      congr 1
      rw [h2]
      clear h2
      by_cases hlt : (tOnes m s.bit.2).1 < m
      · simp only [if_pos hlt, if_pos (show (tOnes m s.bit.2).1 + 1 < m + 1 by omega)]
      · simp only [if_neg hlt, if_neg (show ¬ (tOnes m s.bit.2).1 + 1 < m + 1 by omega)]
    · simp only [if_neg hb] at h ⊢
      obtain ⟨h3, h4⟩ := bit_got s h
      refine ⟨h3, ?_⟩
      rw [h4]
      simp [hb]
theorem bits_eq (r : Rs) (n : Nat) (hn : n ≤ 64) (h : (r.bits (n : Int)).2.bad = 0) : r.bad = 0 ∧ r.L = bitsOf (r.bits (n : Int)).1 n ++ (r.bits (n : Int)).2.L := by
  obtain ⟨h0, hl, hv, hd⟩ := bits_got r n h
  refine ⟨h0, ?_⟩
  rw [hv, hd]
  have e : bitsOf (bval (r.L.take n)) n = r.L.take n := by
    have := bitsOf_bval (r.L.take n)
    rwa [List.length_take, Nat.min_eq_left hl] at this
  rw [e, List.take_append_drop]
theorem tk_got (s : Rs) (h : s.tk.2.bad = 0) (ho : s.tk.1.2 = true) : s.bad = 0 ∧ s.L = tbits s.tk.1.1 ++ s.tk.2.L ∧ s.tk.1.1 < 18446744073709551616 := by
  unfold Rs.tk at *
  have hle := tOnes_le 4 s
  have key : ∀ (n : Nat), n ≤ 4 → ∀ r : Rs, (r.bad = 0 → s.bad = 0 ∧ s.L = List.replicate n true ++ (if n < 4 then [false] else []) ++ r.L) → (tkW n r).2.bad = 0 → (tkW n r).1.2 = true →
      s.bad = 0 ∧ s.L = tbits (tkW n r).1.1 ++ (tkW n r).2.L ∧ (tkW n r).1.1 < 18446744073709551616 := by
    intro n hn r hr h ho
    have hcase : n = 0 ∨ n = 1 ∨ n = 2 ∨ n = 3 ∨ n = 4 := by omega
    rcases hcase with rfl | rfl | rfl | rfl | rfl
    · obtain ⟨h1, h2⟩ := hr h
      exact ⟨h1, by rw [h2]; rfl, by show (0 : Nat) < _; decide⟩
    · rw [tkW1] at h ho ⊢
      simp only at h ho ⊢
      obtain ⟨h3, h4⟩ := bits_eq r 7 (by decide) h
      obtain ⟨h1, h2⟩ := hr h3
      rw [if_pos (by decide)] at h2
      have hb : (r.bits 7).1 < 2 ^ 7 := bits_lt r 7 (by decide)
      replace h4 : r.L = bitsOf (r.bits 7).1 7 ++ (r.bits 7).2.L := h4
      refine ⟨h1, ?_, by omega⟩
      rw [h2]
      conv => lhs; rw [h4]
      unfold tbits
      rw [if_neg (by omega), if_pos (by omega), Nat.add_sub_cancel]
      simp
    · rw [tkW2] at h ho ⊢
      simp only at h ho ⊢
      obtain ⟨h3, h4⟩ := bits_eq r 12 (by decide) h
      obtain ⟨h1, h2⟩ := hr h3
      rw [if_pos (by decide)] at h2
      have hb : (r.bits 12).1 < 2 ^ 12 := bits_lt r 12 (by decide)
      replace h4 : r.L = bitsOf (r.bits 12).1 12 ++ (r.bits 12).2.L := h4
      refine ⟨h1, ?_, by omega⟩
      rw [h2]
      conv => lhs; rw [h4]
      unfold tbits
      rw [if_neg (by omega), if_neg (by omega), if_pos (by omega), Nat.add_sub_cancel]
      simp
    · rw [tkW3] at h ho ⊢
      simp only at h ho ⊢
      obtain ⟨h3, h4⟩ := bits_eq r 20 (by decide) h
      obtain ⟨h1, h2⟩ := hr h3
      rw [if_pos (by decide)] at h2
      have hb : (r.bits 20).1 < 2 ^ 20 := bits_lt r 20 (by decide)
      replace h4 : r.L = bitsOf (r.bits 20).1 20 ++ (r.bits 20).2.L := h4
      refine ⟨h1, ?_, by omega⟩
      rw [h2]
      conv => lhs; rw [h4]
      unfold tbits
      rw [if_neg (by omega), if_neg (by omega), if_neg (by omega), if_pos (by omega), Nat.add_sub_cancel]
      simp
    · by_cases hlt : (r.bits 64).1 < 1052801
      · rw [tkW4_no r hlt] at ho; simp at ho
      · rw [tkW4_ok r hlt] at h ho ⊢
        simp only at h ho ⊢
        obtain ⟨h3, h4⟩ := bits_eq r 64 (by decide) h
        obtain ⟨h1, h2⟩ := hr h3
        rw [if_neg (by decide)] at h2
        have hb : (r.bits 64).1 < 18446744073709551616 := bits_lt64 r 64 (by decide)
        replace h4 : r.L = bitsOf (r.bits 64).1 64 ++ (r.bits 64).2.L := h4
        refine ⟨h1, ?_, hb⟩
        rw [h2]
        conv => lhs; rw [h4]
        unfold tbits
        rw [if_neg (by omega), if_neg (by omega), if_neg (by omega), if_neg hlt]
        simp
  exact key _ hle _ (tOnes_got 4 s) h ho
theorem tOnes_bad (m : Nat) : ∀ s : Rs, s.bad ≠ 0 → tOnes m s = (0, s) := by
  intro s h
  cases m with
  | zero => rfl
  | succ m =>
    unfold tOnes
    rw [bit_of_bad h]
    simp
theorem tk_bad {s : Rs} (h : s.bad ≠ 0) : s.tk = ((0, true), s) := by
  unfold Rs.tk
  rw [tOnes_bad 4 s h]
  rfl
end Go.Fm
