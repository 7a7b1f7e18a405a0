/- What a reader's calls take from its bits. -/
import Derived.Test.YtakaolcajbhkiaaGreatBits2
namespace Go.Fm
set_option linter.unusedVariables false
set_option linter.unusedSimpArgs false

/-- The bits of bytes. -/
def unpack (B : List Nat) : List Bool := B.flatMap fun x => bitsOf x 8

theorem unpack_nil : unpack [] = [] := rfl
theorem unpack_cons (x : Nat) (B : List Nat) : unpack (x :: B) = bitsOf x 8 ++ unpack B := rfl
theorem unpack_append (B C : List Nat) : unpack (B ++ C) = unpack B ++ unpack C := by simp [unpack]
theorem length_unpack (B : List Nat) : (unpack B).length = 8 * B.length := by
  induction B with
  | nil => rfl
  | cons x B ih => rw [unpack_cons, List.length_append, length_bitsOf, ih, List.length_cons]; omega
theorem unpack_drop (B : List Nat) (q : Nat) : (unpack B).drop (8 * q) = unpack (B.drop q) := by
  induction q generalizing B with
  | zero => simp
  | succ q ih =>
    cases B with
    | nil => simp [unpack]
    | cons x B =>
      rw [unpack_cons, List.drop_append, List.drop_eq_nil_of_le (by rw [length_bitsOf]; omega), length_bitsOf, List.nil_append, List.drop_succ_cons, ← ih]
      congr 1

/-- Bits of one byte. -/
theorem drop_take_bitsOf (b r k : Nat) (h : r + k ≤ 8) : ((bitsOf b 8).drop r).take k = bitsOf (b / 2 ^ (8 - r - k)) k := by
  have e : bitsOf b 8 = bitsOf (b / 2 ^ (8 - r - k)) (r + k) ++ bitsOf b (8 - r - k) := by
    rw [← bitsOf_split]
    congr 1
    omega
  rw [e, bitsOf_split, List.append_assoc, List.drop_append, List.drop_eq_nil_of_le (by simp), length_bitsOf, Nat.sub_self, List.drop_zero, List.nil_append, List.take_append_of_le_length (by simp), List.take_of_length_le (by simp)]

/-- What stands at a place within one byte. -/
theorem unpack_at (B : List Nat) (p k : Nat) (hp : p / 8 < B.length) (hk : p % 8 + k ≤ 8) :
    bval (((unpack B).drop p).take k) = B[p / 8] / 2 ^ (8 - p % 8 - k) % 2 ^ k := by
  have e : (unpack B).drop p = ((unpack B).drop (8 * (p / 8))).drop (p % 8) := by
    rw [List.drop_drop]
    congr 1
    omega
  rw [e, unpack_drop, List.drop_eq_getElem_cons hp, unpack_cons, List.drop_append_of_le_length (by rw [length_bitsOf]; omega), List.take_append_of_le_length (by rw [List.length_drop, length_bitsOf]; omega), drop_take_bitsOf _ _ _ hk, bval_bitsOf]

/-- A reader: the bits that are left, the first refusal. -/
structure Rs where
  L : List Bool
  bad : Nat
def Rs.refuse (s : Rs) (e : Nat) : Rs := if s.bad = 0 then ⟨s.L, e⟩ else s
def Rs.bits (s : Rs) (n : Int) : Nat × Rs :=
  if n < 0 ∨ 64 < n then (0, s.refuse 10) else if (s.L.length : Int) < n then (0, s.refuse 12) else if s.bad ≠ 0 then (0, s) else (bval (s.L.take n.toNat), ⟨s.L.drop n.toNat, s.bad⟩)
def Rs.bit (s : Rs) : Bool × Rs := (decide ((s.bits 1).1 = 1), (s.bits 1).2)
/-- How many ones stand in front. -/
def ones : List Bool → Nat
  | true :: l => ones l + 1
  | _ => 0
def Rs.unary (s : Rs) : Nat × Rs :=
  if 64 < ones s.L then (0, s.refuse 11) else if ones s.L = s.L.length then (0, s.refuse 12) else if s.bad ≠ 0 then (0, s) else (ones s.L, ⟨s.L.drop (ones s.L + 1), s.bad⟩)
/-- A Var's groups, from the k-th on: the number, what is left; or the error. -/
def varGo (L : List Bool) (k x : Nat) : Nat ⊕ (Nat × List Bool) :=
  if h : L.length < 8 then .inl 12
  else if (k = 9 ∧ 1 < bval (L.take 8)) ∨ (0 < k ∧ bval (L.take 8) = 0) then .inl 13
  else if 128 ≤ bval (L.take 8) then varGo (L.drop 8) (k + 1) (x + bval (L.take 8) % 128 * 2 ^ (7 * k))
  else .inr (x + bval (L.take 8) % 128 * 2 ^ (7 * k), L.drop 8)
termination_by L.length
decreasing_by simp; omega
def Rs.var (s : Rs) : Nat × Rs :=
  if s.bad ≠ 0 then (0, s) else match varGo s.L 0 0 with
    | .inl e => (0, s.refuse e)
    | .inr (x, l) => (x, ⟨l, s.bad⟩)
def unzig (u : Nat) : Int := if u % 2 = 1 then -1 - (u / 2 : Nat) else (u / 2 : Nat)
def Rs.zig (s : Rs) : Int × Rs := (unzig s.var.1, s.var.2)
def Rs.end_ (s : Rs) : Nat := if s.bad ≠ 0 then s.bad else if 8 ≤ s.L.length then 14 else if bval s.L ≠ 0 then 13 else 0

theorem ones_le (l : List Bool) : ones l ≤ l.length := by
  induction l with
  | nil => simp [ones]
  | cons b l ih => cases b <;> simp [ones]; omega
theorem ones_lt_iff (l : List Bool) (n : Nat) (h : ∀ i, i < n → l[i]? = some true) : n ≤ ones l := by
  induction l generalizing n with
  | nil =>
    cases n with
    | zero => simp
    | succ n => have := h 0 (by omega); simp at this
  | cons b l ih =>
    cases n with
    | zero => simp
    | succ n =>
      have h0 := h 0 (by omega)
      simp at h0
      subst h0
      have := ih n (fun i hi => by have := h (i + 1) (by omega); simpa using this)
      simp [ones]; omega
theorem ones_eq (l : List Bool) (n : Nat) (h : ∀ i, i < n → l[i]? = some true) (hn : l[n]? ≠ some true) : ones l = n := by
  induction l generalizing n with
  | nil =>
    cases n with
    | zero => rfl
    | succ n => have := h 0 (by omega); simp at this
  | cons b l ih =>
    cases n with
    | zero =>
      cases b with
      | true => simp at hn
      | false => rfl
    | succ n =>
      have h0 := h 0 (by omega)
      simp at h0
      subst h0
      have := ih n (fun i hi => by have := h (i + 1) (by omega); simpa using this) (by simpa using hn)
      simp [ones, this]
end Go.Fm
