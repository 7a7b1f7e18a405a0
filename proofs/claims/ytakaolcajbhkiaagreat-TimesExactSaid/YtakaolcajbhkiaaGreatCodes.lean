/- Bits that are laid are taken again, and the other way: in plain Lean. -/
import Derived.Test.YtakaolcajbhkiaaGreatBR
import Derived.Test.YtakaolcajbhkiaaGreatOps
namespace Go.Fm
open Go.Proofs.YtakaolcajbhkiaaGreat Go.SL
set_option linter.unusedVariables false
set_option linter.unusedSimpArgs false

theorem take_bitsOf (X n : Nat) (R : List Bool) : (bitsOf X n ++ R).take n = bitsOf X n := List.take_left' (length_bitsOf _ _)
theorem drop_bitsOf (X n : Nat) (R : List Bool) : (bitsOf X n ++ R).drop n = R := List.drop_left' (length_bitsOf _ _)

theorem varGo_back (z : Nat) : ∀ (k x : Nat) (R : List Bool), k ≤ 9 → z * 2 ^ (7 * k) < 2 ^ 64 → (0 < k → 0 < z) → varGo (varBits z ++ R) k x = .inr (x + z * 2 ^ (7 * k), R) := by
  induction z using Nat.strongRecOn with
  | _ z ih =>
    intro k x R hk hz h0
    have h9 : k = 9 → z ≤ 1 := by
      rintro rfl
      have e : (2 : Nat) ^ (7 * 9) = 9223372036854775808 := by decide
      have e' : (2 : Nat) ^ 64 = 18446744073709551616 := by decide
      rw [e, e'] at hz
      omega
    by_cases h : z < 128
    · have hb : bval ((varBits z ++ R).take 8) = z := by rw [varBits_lt z h, take_bitsOf, bval_bitsOf]; exact Nat.mod_eq_of_lt (by omega)
      have hd : (varBits z ++ R).drop 8 = R := by rw [varBits_lt z h, drop_bitsOf]
      have hl : ¬ (varBits z ++ R).length < 8 := by rw [varBits_lt z h, List.length_append, length_bitsOf]; omega
      rw [varGo_done hl (by rw [hb]; omega) (by rw [hb]; omega), hb, hd, Nat.mod_eq_of_lt h]
    · have hb : bval ((varBits z ++ R).take 8) = 128 + z % 128 := by rw [varBits_ge z h, List.append_assoc, take_bitsOf, bval_bitsOf]; exact Nat.mod_eq_of_lt (by omega)
      have hd : (varBits z ++ R).drop 8 = varBits (z / 128) ++ R := by rw [varBits_ge z h, List.append_assoc, drop_bitsOf]
      have hl : ¬ (varBits z ++ R).length < 8 := by rw [varBits_ge z h, List.length_append, List.length_append, length_bitsOf]; omega
      have hp : (2 : Nat) ^ (7 * (k + 1)) = 2 ^ (7 * k) * 128 := by rw [show 7 * (k + 1) = 7 * k + 7 by omega, Nat.pow_add]
      have hm : z / 128 * 2 ^ (7 * (k + 1)) + z % 128 * 2 ^ (7 * k) = z * 2 ^ (7 * k) := by
        rw [hp, Nat.mul_comm (2 ^ (7 * k)) 128, ← Nat.mul_assoc, ← Nat.add_mul, Nat.mul_comm (z / 128) 128, Nat.div_add_mod]
      rw [varGo_more hl (by rw [hb]; omega) (by rw [hb]; omega), hb, hd, ih (z / 128) (by omega) (k + 1) _ R (by omega) (by omega) (by omega)]
      rw [show (128 + z % 128) % 128 = z % 128 by omega, Nat.add_assoc, Nat.add_comm (z % 128 * 2 ^ (7 * k)), hm]

theorem varGo_cut (z : Nat) : ∀ (k x m : Nat), k ≤ 9 → z * 2 ^ (7 * k) < 2 ^ 64 → (0 < k → 0 < z) → m < (varBits z).length → varGo ((varBits z).take m) k x = .inl 12 := by
  induction z using Nat.strongRecOn with
  | _ z ih =>
    intro k x m hk hz h0 hm
    by_cases h8 : m < 8
    · exact varGo_short (by rw [List.length_take]; omega)
    · have h9 : k = 9 → z ≤ 1 := by
        rintro rfl
        have e : (2 : Nat) ^ (7 * 9) = 9223372036854775808 := by decide
        have e' : (2 : Nat) ^ 64 = 18446744073709551616 := by decide
        rw [e, e'] at hz
        omega
      by_cases h : z < 128
      · rw [varBits_lt z h, length_bitsOf] at hm
        omega
      · have e : (varBits z).take m = bitsOf (128 + z % 128) 8 ++ (varBits (z / 128)).take (m - 8) := by
          rw [varBits_ge z h, List.take_append, length_bitsOf, List.take_of_length_le (by rw [length_bitsOf]; omega)]
        have hb : bval (((varBits z).take m).take 8) = 128 + z % 128 := by rw [e, take_bitsOf, bval_bitsOf]; exact Nat.mod_eq_of_lt (by omega)
        have hd : ((varBits z).take m).drop 8 = (varBits (z / 128)).take (m - 8) := by rw [e, drop_bitsOf]
        have hl : ¬ ((varBits z).take m).length < 8 := by rw [e, List.length_append, length_bitsOf]; omega
        have hp : (2 : Nat) ^ (7 * (k + 1)) = 2 ^ (7 * k) * 128 := by rw [show 7 * (k + 1) = 7 * k + 7 by omega, Nat.pow_add]
        have hmm : z / 128 * 2 ^ (7 * (k + 1)) + z % 128 * 2 ^ (7 * k) = z * 2 ^ (7 * k) := by
          rw [hp, Nat.mul_comm (2 ^ (7 * k)) 128, ← Nat.mul_assoc, ← Nat.add_mul, Nat.mul_comm (z / 128) 128, Nat.div_add_mod]
        rw [varBits_ge z h, List.length_append, length_bitsOf] at hm
        rw [varGo_more hl (by rw [hb]; omega) (by rw [hb]; omega), hd]
        exact ih (z / 128) (by omega) (k + 1) _ (m - 8) (by omega) (by omega) (by omega) (by omega)

theorem varGo_front (n : Nat) : ∀ (L : List Bool) (k x y : Nat) (R : List Bool), L.length = n → varGo L k x = .inr (y, R) → ∃ z, y = x + z * 2 ^ (7 * k) ∧ L = varBits z ++ R ∧ (0 < k → 0 < z) := by
  induction n using Nat.strongRecOn with
  | _ n ih =>
    intro L k x y R hn h
    by_cases h8 : L.length < 8
    · rw [varGo_short h8] at h; cases h
    by_cases hf : (k = 9 ∧ 1 < bval (L.take 8)) ∨ (0 < k ∧ bval (L.take 8) = 0)
    · rw [varGo_form h8 hf] at h; cases h
    have hl8 : (L.take 8).length = 8 := by rw [List.length_take]; omega
    have hlt := bval_lt (L.take 8)
    rw [hl8] at hlt
    have hbb := bitsOf_bval (L.take 8)
    rw [hl8] at hbb
    by_cases h128 : 128 ≤ bval (L.take 8)
    · rw [varGo_more h8 hf h128] at h
      obtain ⟨z, hy, hL, hz⟩ := ih (L.drop 8).length (by rw [List.length_drop]; omega) _ _ _ _ _ rfl h
      have hz := hz (by omega)
      refine ⟨bval (L.take 8) % 128 + 128 * z, ?_, ?_, by omega⟩
      · have hp : (2 : Nat) ^ (7 * (k + 1)) = 128 * 2 ^ (7 * k) := by rw [show 7 * (k + 1) = 7 + 7 * k by omega, Nat.pow_add]
        rw [hy, hp, Nat.add_mul, Nat.add_assoc, Nat.mul_comm 128 z, Nat.mul_assoc]
      · rw [varBits_ge _ (by omega), show 128 + (bval (L.take 8) % 128 + 128 * z) % 128 = bval (L.take 8) by omega, show (bval (L.take 8) % 128 + 128 * z) / 128 = z by omega, hbb, List.append_assoc, ← hL, List.take_append_drop]
    · rw [varGo_done h8 hf h128] at h
      simp only [Sum.inr.injEq, Prod.mk.injEq] at h
      obtain ⟨rfl, rfl⟩ := h
      refine ⟨bval (L.take 8), ?_, ?_, by omega⟩
      · rw [Nat.mod_eq_of_lt (by omega)]
      · rw [varBits_lt _ (by omega), hbb, List.take_append_drop]

theorem ones_split (l : List Bool) (h : ones l ≠ l.length) : l = List.replicate (ones l) true ++ false :: l.drop (ones l + 1) := by
  induction l with
  | nil => simp [ones] at h
  | cons b l ih =>
    cases b with
    | false => simp [ones]
    | true =>
      have h' : ones l ≠ l.length := by simpa [ones] using h
      have e := ih h'
      show true :: l = List.replicate (ones l + 1) true ++ false :: (true :: l).drop (ones l + 1 + 1)
      rw [List.replicate_succ, List.drop_succ_cons, List.cons_append, ← e]
theorem ones_rep (n : Nat) (R : List Bool) : ones (List.replicate n true ++ false :: R) = n := by
  induction n with
  | zero => rfl
  | succ n ih => rw [List.replicate_succ]; show ones (List.replicate n true ++ false :: R) + 1 = n + 1; rw [ih]
theorem ones_all (n : Nat) : ones (List.replicate n true) = n := by
  induction n with
  | zero => rfl
  | succ n ih => rw [List.replicate_succ]; show ones (List.replicate n true) + 1 = n + 1; rw [ih]

theorem unzig_zigzag (x : Int) : unzig (zigzag x) = x := by
  unfold unzig zigzag
  split <;> split <;> omega
theorem zigzag_unzig (u : Nat) : zigzag (unzig u) = u := by
  unfold unzig zigzag
  split <;> split <;> omega

/-! ### What each call takes of bits that were laid -/
theorem take_bits (X n : Nat) (hn : n ≤ 64) (hX : X < 2 ^ n) (R : List Bool) : (⟨bitsOf X n ++ R, 0⟩ : Rs).bits (n : Int) = (X, ⟨R, 0⟩) := by
  unfold Rs.bits
  rw [if_neg (by omega), if_neg (by rw [List.length_append, length_bitsOf]; omega), if_neg (by simp), Int.toNat_natCast, take_bitsOf, drop_bitsOf, bval_bitsOf, Nat.mod_eq_of_lt hX]
theorem take_bit (b : Bool) (R : List Bool) : (⟨b :: R, 0⟩ : Rs).bit = (b, ⟨R, 0⟩) := by
  have h := take_bits b.toNat 1 (by omega) (Bool.toNat_lt b) R
  have e : bitsOf b.toNat 1 = [b] := by cases b <;> decide
  rw [e] at h
  unfold Rs.bit
  rw [show ((1 : Nat) : Int) = 1 from rfl] at h
  rw [show (b :: R) = [b] ++ R from rfl, h]
  cases b <;> rfl
theorem take_unary (n : Nat) (hn : n ≤ 64) (R : List Bool) : (⟨List.replicate n true ++ false :: R, 0⟩ : Rs).unary = (n, ⟨R, 0⟩) := by
  unfold Rs.unary
  simp only [ones_rep]
  rw [if_neg (by omega), if_neg (by rw [List.length_append, List.length_replicate, List.length_cons]; omega), if_neg (by simp), List.drop_append, List.length_replicate, List.drop_eq_nil_of_le (by rw [List.length_replicate]; omega), show n + 1 - n = 1 by omega]
  rfl
theorem take_var (X : Nat) (hX : X < 18446744073709551616) (R : List Bool) : (⟨varBits X ++ R, 0⟩ : Rs).var = (X, ⟨R, 0⟩) := by
  unfold Rs.var
  simp only [ne_eq, not_true_eq_false, if_false]
  rw [varGo_back X 0 0 R (by omega) (by simpa using hX) (by omega)]
  simp

/-! ### Operations -/
def _root_.Go.SL.OpD.fits (o : OpD) : Bool := if o.d = 2 then decide (0 ≤ o.n ∧ o.n ≤ 64 ∧ o.x < 2 ^ o.n.toNat) else if o.d = 3 then decide (0 ≤ o.n ∧ o.n ≤ 64) else decide (1 ≤ o.d ∧ o.d ≤ 5)
def obit (o : OpD) : List Bool :=
  if o.d = 1 then [decide (o.x % 2 = 1)] else if o.d = 2 then bitsOf o.x o.n.toNat else if o.d = 3 then List.replicate o.n.toNat true ++ [false] else if o.d = 4 then varBits o.x else varBits (zigzag (IntKind.i64.wrap o.x))
def Ws.lay (s : Ws) (o : OpD) : Ws :=
  if o.d = 1 then s.bit (decide (o.x % 2 = 1)) else if o.d = 2 then s.bits o.x o.n else if o.d = 3 then s.unary o.n else if o.d = 4 then s.var o.x else if o.d = 5 then s.zig (IntKind.i64.wrap o.x) else s
def Rs.got (s : Rs) (o : OpD) : Bool × Rs :=
  if o.d = 1 then (s.bit.1 == decide (o.x % 2 = 1), s.bit.2) else if o.d = 2 then (decide ((s.bits o.n).1 = o.x), (s.bits o.n).2) else if o.d = 3 then (decide ((s.unary.1 : Int) = o.n), s.unary.2)
  else if o.d = 4 then (decide (s.var.1 = o.x), s.var.2) else (decide (s.zig.1 = IntKind.i64.wrap o.x), s.zig.2)

theorem i64_range (x : Int) : -9223372036854775808 ≤ IntKind.i64.wrap x ∧ IntKind.i64.wrap x ≤ 9223372036854775807 := by
  have : IntKind.i64.wrap x = Go.RowKit.wrap64 x := IntWalk.i64_left x
  rw [this]
  unfold Go.RowKit.wrap64
  omega
theorem lay_len (s : Ws) (o : OpD) (h : o.ok) : (s.lay o).L.length ≤ s.L.length + 80 := by
  unfold Ws.lay
  split
  · have := bit_len s (decide (o.x % 2 = 1)); omega
  split
  · have := bits_len s o.x o.n; omega
  split
  · have := unary_len s o.n; omega
  split
  · exact var_len s _ h.2.2.1
  split
  · exact zig_len s _ (i64_range _).1 (i64_range _).2
  · omega

theorem fits_cases {o : OpD} (h : o.fits = true) : (o.d = 1 ∧ obit o = [decide (o.x % 2 = 1)]) ∨ (o.d = 2 ∧ ∃ n : Nat, o.n = n ∧ n ≤ 64 ∧ o.x < 2 ^ n ∧ obit o = bitsOf o.x n) ∨ (o.d = 3 ∧ ∃ n : Nat, o.n = n ∧ n ≤ 64 ∧ obit o = List.replicate n true ++ [false]) ∨
    (o.d = 4 ∧ obit o = varBits o.x) ∨ (o.d = 5 ∧ obit o = varBits (zigzag (IntKind.i64.wrap o.x))) := by
  unfold OpD.fits at h
  unfold obit
  split at h
  · rename_i h2
    have h := of_decide_eq_true h
    refine .inr (.inl ⟨h2, o.n.toNat, by omega, by omega, h.2.2, ?_⟩)
    rw [if_neg (by omega), if_pos h2]
  split at h
  · rename_i h2 h3
    have h := of_decide_eq_true h
    refine .inr (.inr (.inl ⟨h3, o.n.toNat, by omega, by omega, ?_⟩))
    rw [if_neg (by omega), if_neg (by omega), if_pos h3]
  · have h := of_decide_eq_true h
    rename_i h2 h3 _
    by_cases h1 : o.d = 1
    · exact .inl ⟨h1, if_pos h1⟩
    by_cases h4 : o.d = 4
    · exact .inr (.inr (.inr (.inl ⟨h4, by rw [if_neg h1, if_neg h2, if_neg h3, if_pos h4]⟩)))
    · exact .inr (.inr (.inr (.inr ⟨by omega, by rw [if_neg h1, if_neg h2, if_neg h3, if_neg h4]⟩)))

theorem lay_fits {o : OpD} (h : o.fits = true) (L : List Bool) : (⟨L, 0⟩ : Ws).lay o = ⟨L ++ obit o, 0⟩ := by
  rcases fits_cases h with ⟨hd, hb⟩ | ⟨hd, n, hn, hn64, hx, hb⟩ | ⟨hd, n, hn, hn64, hb⟩ | ⟨hd, hb⟩ | ⟨hd, hb⟩ <;> rw [hb] <;> unfold Ws.lay <;> simp only [hd]
  · rfl
  · have : ¬ wide o.x (n : Int) = true := by simp [wide]; omega
    simp only [Ws.bits, hn, this]
    rfl
  · simp only [Ws.unary, hn]
    have : ¬ ((n : Int) < 0 ∨ 64 < (n : Int)) := by omega
    simp only [this]
    rfl
  · rfl
  · rfl

theorem got_fits {o : OpD} (h : o.fits = true) (ho : o.ok) (R : List Bool) : (⟨obit o ++ R, 0⟩ : Rs).got o = (true, ⟨R, 0⟩) := by
  rcases fits_cases h with ⟨hd, hb⟩ | ⟨hd, n, hn, hn64, hx, hb⟩ | ⟨hd, n, hn, hn64, hb⟩ | ⟨hd, hb⟩ | ⟨hd, hb⟩ <;> rw [hb] <;> unfold Rs.got <;> simp only [hd]
  · rw [show [decide (o.x % 2 = 1)] ++ R = decide (o.x % 2 = 1) :: R from rfl]
    simp [take_bit]
  · simp [hn, take_bits _ _ hn64 hx]
  · rw [List.append_assoc, List.singleton_append]
    simp [hn, take_unary _ hn64]
  · simp [take_var _ ho.2.2.1]
  · have hz := take_var _ (zigzag_lt _ (i64_range o.x).1 (i64_range o.x).2) R
    have : (⟨varBits (zigzag (IntKind.i64.wrap o.x)) ++ R, 0⟩ : Rs).zig = (IntKind.i64.wrap o.x, ⟨R, 0⟩) := by
      unfold Rs.zig
      rw [hz, unzig_zigzag]
    simp [this]

theorem refuse_of_bad {s : Rs} (h : s.bad ≠ 0) (e : Nat) : s.refuse e = s := if_neg h
theorem bits_of_bad {s : Rs} (h : s.bad ≠ 0) (n : Int) : (s.bits n).2 = s := by
  unfold Rs.bits
  split
  · exact refuse_of_bad h _
  split
  · exact refuse_of_bad h _
  rfl
theorem got_of_bad {s : Rs} (h : s.bad ≠ 0) (o : OpD) : (s.got o).2 = s := by
  unfold Rs.got
  split
  · exact bits_of_bad h 1
  split
  · exact bits_of_bad h _
  split
  · unfold Rs.unary
    split
    · exact refuse_of_bad h _
    split
    · exact refuse_of_bad h _
    rfl
  have hv : s.var.2 = s := by unfold Rs.var; rw [if_pos h]
  split
  · exact hv
  · exact hv

theorem got_cut {o : OpD} (h : o.fits = true) (ho : o.ok) (m : Nat) (hm : m < (obit o).length) : ((⟨(obit o).take m, 0⟩ : Rs).got o).2.bad = 12 := by
  rcases fits_cases h with ⟨hd, hb⟩ | ⟨hd, n, hn, hn64, hx, hb⟩ | ⟨hd, n, hn, hn64, hb⟩ | ⟨hd, hb⟩ | ⟨hd, hb⟩ <;> rw [hb] at hm ⊢ <;> unfold Rs.got <;> simp only [hd]
  · obtain rfl : m = 0 := by simpa using hm
    rfl
  · rw [length_bitsOf] at hm
    simp only [hn]
    have : ((⟨(bitsOf o.x n).take m, 0⟩ : Rs).bits (n : Int)).2.bad = 12 := by
      unfold Rs.bits
      rw [if_neg (by omega), if_pos (by rw [List.length_take, length_bitsOf]; omega)]
      rfl
    simpa using this
  · simp only [List.length_append, List.length_replicate, List.length_singleton] at hm
    have e : (List.replicate n true ++ [false]).take m = List.replicate m true := by
      rw [List.take_append, List.length_replicate, show m - n = 0 by omega, List.take_zero, List.append_nil, List.take_replicate, Nat.min_eq_left (by omega)]
    have : ((⟨(List.replicate n true ++ [false]).take m, 0⟩ : Rs).unary).2.bad = 12 := by
      rw [e]
      unfold Rs.unary
      simp only [ones_all]
      rw [if_neg (by omega), if_pos (by rw [List.length_replicate])]
      rfl
    simpa using this
  · have : ((⟨(varBits o.x).take m, 0⟩ : Rs).var).2.bad = 12 := by
      unfold Rs.var
      simp only [ne_eq, not_true_eq_false, if_false]
      rw [varGo_cut o.x 0 0 m (by omega) (by have := ho.2.2.1; simpa using this) (by omega) hm]
      rfl
    simpa using this
  · have : ((⟨(varBits (zigzag (IntKind.i64.wrap o.x))).take m, 0⟩ : Rs).zig).2.bad = 12 := by
      unfold Rs.zig Rs.var
      simp only [ne_eq, not_true_eq_false, if_false]
      rw [varGo_cut _ 0 0 m (by omega) (by have := zigzag_lt _ (i64_range o.x).1 (i64_range o.x).2; simpa using this) (by omega) hm]
      rfl
    simpa using this

def opsBits (l : List OpD) : List Bool := l.flatMap obit
theorem opsBits_cons (o : OpD) (l : List OpD) : opsBits (o :: l) = obit o ++ opsBits l := by simp [opsBits]
theorem opsBits_snoc (l : List OpD) (o : OpD) : opsBits (l ++ [o]) = opsBits l ++ obit o := by simp [opsBits]

/-- A reader of too few of the bits of these operations. -/
def Cut (l : List OpD) (s : Rs) : Prop := s.bad = 12 ∨ ∃ m, m < (opsBits l).length ∧ s = ⟨(opsBits l).take m, 0⟩
theorem Cut.step {o : OpD} {l : List OpD} {s : Rs} (h : Cut (o :: l) s) (hf : o.fits = true) (ho : o.ok) : Cut l (s.got o).2 := by
  rcases h with h | ⟨m, hm, rfl⟩
  · left
    rw [got_of_bad (by omega), h]
  · rw [opsBits_cons] at hm ⊢
    by_cases hc : m < (obit o).length
    · left
      rw [List.take_append, show m - (obit o).length = 0 by omega, List.take_zero, List.append_nil]
      exact got_cut hf ho m hc
    · right
      refine ⟨m - (obit o).length, by rw [List.length_append] at hm; omega, ?_⟩
      rw [List.take_append, List.take_of_length_le (by omega), got_fits hf ho]
theorem Cut.last {s : Rs} (h : Cut [] s) : s.end_ = 12 := by
  rcases h with h | ⟨m, hm, _⟩
  · unfold Rs.end_
    rw [if_pos (by omega), h]
  · simp [opsBits] at hm
end Go.Fm
