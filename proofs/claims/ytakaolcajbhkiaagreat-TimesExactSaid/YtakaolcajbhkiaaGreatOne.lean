/- What a reading with OK takes, a writer that lays what it told makes again: in plain Lean. -/
import Derived.Test.YtakaolcajbhkiaaGreatCodes
namespace Go.Fm
set_option linter.unusedVariables false
set_option linter.unusedSimpArgs false
open Go.Proofs.YtakaolcajbhkiaaGreat Go.SL

/-- A number is taken, and laid. -/
def oneR (r : Rs) (o : OpD) : Rs :=
  if o.d = 1 then r.bit.2 else if o.d = 2 then (if 0 ≤ o.n ∧ o.n ≤ 64 then (r.bits o.n).2 else r) else if o.d = 3 then r.unary.2 else if o.d = 4 then r.var.2 else if o.d = 5 then r.zig.2 else r
def oneW (r : Rs) (w : Ws) (o : OpD) : Ws :=
  if o.d = 1 then w.bit r.bit.1 else if o.d = 2 then (if 0 ≤ o.n ∧ o.n ≤ 64 then w.bits (r.bits o.n).1 o.n else w) else if o.d = 3 then w.unary (r.unary.1 : Int) else if o.d = 4 then w.var r.var.1 else if o.d = 5 then w.zig r.zig.1 else w

/-- What holds of the two. -/
def One (T : List Bool) (r : Rs) (w : Ws) : Prop := w.bad = 0 ∧ (r.bad = 0 → T = w.L ++ r.L)

theorem bits_lt (r : Rs) (n : Nat) (hn : n ≤ 64) : (r.bits (n : Int)).1 < 2 ^ n := by
  unfold Rs.bits
  split
  · exact Nat.two_pow_pos n
  split
  · exact Nat.two_pow_pos n
  split
  · exact Nat.two_pow_pos n
  · rw [Int.toNat_natCast]
    exact bval_take_lt _ _
theorem bits_lt64 (r : Rs) (n : Nat) (hn : n ≤ 64) : (r.bits (n : Int)).1 < 18446744073709551616 := by
  have h := bits_lt r n hn
  have h2 : 2 ^ n ≤ 2 ^ 64 := Nat.pow_le_pow_right (by decide) hn
  have h3 : (2 : Nat) ^ 64 = 18446744073709551616 := by decide
  omega
theorem bits_got (r : Rs) (n : Nat) (h : (r.bits (n : Int)).2.bad = 0) : r.bad = 0 ∧ n ≤ r.L.length ∧ (r.bits (n : Int)).1 = bval (r.L.take n) ∧ (r.bits (n : Int)).2.L = r.L.drop n := by
  unfold Rs.bits at h ⊢
  split at h
  · simp only [Rs.refuse] at h; split at h <;> simp_all
  rename_i h1
  rw [if_neg h1]
  split at h
  · simp only [Rs.refuse] at h; split at h <;> simp_all
  rename_i h2
  rw [if_neg h2]
  split at h
  · simp_all
  rename_i h3
  rw [if_neg h3]
  exact ⟨by simpa using h3, by omega, by simp, by simp⟩
theorem unary_le (r : Rs) : r.unary.1 ≤ 64 := by
  unfold Rs.unary
  split
  · exact Nat.zero_le _
  split
  · exact Nat.zero_le _
  split
  · exact Nat.zero_le _
  · omega
theorem unary_got (r : Rs) (h : r.unary.2.bad = 0) : r.bad = 0 ∧ r.L = List.replicate r.unary.1 true ++ [false] ++ r.unary.2.L := by
  unfold Rs.unary at h ⊢
  split at h
  · simp only [Rs.refuse] at h; split at h <;> simp_all
  rename_i h1
  rw [if_neg h1]
  split at h
  · simp only [Rs.refuse] at h; split at h <;> simp_all
  rename_i h2
  rw [if_neg h2]
  split at h
  · simp_all
  rename_i h3
  rw [if_neg h3]
  refine ⟨by simpa using h3, ?_⟩
  rw [List.append_assoc, List.singleton_append]
  exact ones_split r.L h2
theorem var_got (r : Rs) (h : r.var.2.bad = 0) : r.bad = 0 ∧ r.L = varBits r.var.1 ++ r.var.2.L := by
  unfold Rs.var at h ⊢
  split at h
  · simp_all
  rename_i h1
  rw [if_neg h1]
  split at h
  · rename_i e he
    simp only [Rs.refuse] at h
    split at h
    · exfalso
      simp only at h
      subst h
      have hne : ∀ (n : Nat) (L : List Bool) (k x : Nat), L.length = n → varGo L k x ≠ .inl 0 := by
        intro n
        induction n using Nat.strongRecOn with
        | _ n ih =>
          intro L k x hn hv
          by_cases h8 : L.length < 8
          · rw [varGo_short h8] at hv; cases hv
          by_cases hf : (k = 9 ∧ 1 < bval (L.take 8)) ∨ (0 < k ∧ bval (L.take 8) = 0)
          · rw [varGo_form h8 hf] at hv; cases hv
          by_cases h128 : 128 ≤ bval (L.take 8)
          · rw [varGo_more h8 hf h128] at hv
            exact ih (L.drop 8).length (by rw [List.length_drop]; omega) _ _ _ rfl hv
          · rw [varGo_done h8 hf h128] at hv; cases hv
      exact hne _ _ _ _ rfl he
    · rename_i hb
      exact absurd h hb
  · rename_i x l he
    obtain ⟨z, hz, hL, _⟩ := varGo_front _ r.L 0 0 x l rfl he
    have : x = z := by simpa using hz
    subst this
    exact ⟨by simpa using h1, by simpa [he] using hL⟩

theorem One.step {T : List Bool} {r : Rs} {w : Ws} (h : One T r w) (o : OpD) : One T (oneR r o) (oneW r w o) := by
  obtain ⟨hb, hT⟩ := h
  have put (c : List Bool) : w.put c = ⟨w.L ++ c, 0⟩ := by rw [put_zero hb, hb]
  unfold oneR oneW
  split
  · unfold Ws.bit
    rw [put]
    refine ⟨rfl, fun h => ?_⟩
    obtain ⟨h1, h2, h3, h4⟩ := bits_got r 1 h
    rw [hT h1, List.append_assoc]
    congr 1
    show r.L = [r.bit.1] ++ (r.bits (1 : Int)).2.L
    rw [show ((1 : Nat) : Int) = 1 from rfl] at h3 h4
    rw [h4]
    unfold Rs.bit
    simp only [h3]
    obtain ⟨b, l, hbl⟩ : ∃ b l, r.L = b :: l := by
      cases hr : r.L with
      | nil => rw [hr] at h2; simp at h2
      | cons b l => exact ⟨b, l, rfl⟩
    rw [hbl]
    cases b <;> simp [bval]
  split
  · split
    · rename_i h1 h2 h3
      obtain ⟨n, hn⟩ := Int.eq_ofNat_of_zero_le h3.1
      rw [hn]
      have hn64 : n ≤ 64 := by omega
      have hlt := bits_lt r n hn64
      have hw : ¬ wide (r.bits (n : Int)).1 (n : Int) = true := by
        unfold wide
        rw [Int.toNat_natCast, decide_eq_false (by omega), decide_eq_false (by omega), decide_eq_false (by omega)]
        decide
      unfold Ws.bits
      rw [if_neg hw, put, Int.toNat_natCast]
      refine ⟨rfl, fun h => ?_⟩
      obtain ⟨h1, h2, h3, h4⟩ := bits_got r n h
      rw [hT h1, List.append_assoc, h4, h3]
      congr 1
      have e := bitsOf_bval (r.L.take n)
      rw [List.length_take, Nat.min_eq_left h2] at e
      rw [e, List.take_append_drop]
    · exact ⟨hb, hT⟩
  split
  · have h64 := unary_le r
    unfold Ws.unary
    rw [if_neg (by omega), put, Int.toNat_natCast]
    refine ⟨rfl, fun h => ?_⟩
    obtain ⟨h1, h2⟩ := unary_got r h
    rw [hT h1, List.append_assoc]
    congr 1
  split
  · unfold Ws.var
    rw [put]
    refine ⟨rfl, fun h => ?_⟩
    obtain ⟨h1, h2⟩ := var_got r h
    rw [hT h1, List.append_assoc]
    congr 1
  split
  · unfold Ws.zig Ws.var Rs.zig
    simp only [zigzag_unzig]
    rw [put]
    refine ⟨rfl, fun h => ?_⟩
    obtain ⟨h1, h2⟩ := var_got r h
    rw [hT h1, List.append_assoc]
    congr 1
  · exact ⟨hb, hT⟩

theorem oneW_len (r : Rs) (w : Ws) (o : OpD) : (oneW r w o).L.length ≤ w.L.length + 80 := by
  unfold oneW
  split
  · have := bit_len w r.bit.1; omega
  split
  · split
    · have := bits_len w (r.bits o.n).1 o.n; omega
    · omega
  split
  · have := unary_len w (r.unary.1 : Int); omega
  split
  · exact var_len w _ (var_lt r)
  split
  · unfold Ws.zig Rs.zig
    simp only [zigzag_unzig]
    exact var_len w _ (var_lt r)
  · omega

theorem unpack_inj : ∀ {A B : List Nat}, (∀ x ∈ A, x < 256) → (∀ x ∈ B, x < 256) → unpack A = unpack B → A = B
  | [], [], _, _, _ => rfl
  | [], y :: B, _, _, h => by have := congrArg List.length h; rw [length_unpack, length_unpack] at this; simp at this
  | x :: A, [], _, _, h => by have := congrArg List.length h; rw [length_unpack, length_unpack] at this; simp at this
  | x :: A, y :: B, hA, hB, h => by
    rw [unpack_cons, unpack_cons] at h
    have h1 := List.append_inj h (by rw [length_bitsOf, length_bitsOf])
    have hx := hA x (by simp)
    have hy := hB y (by simp)
    have e := congrArg bval h1.1
    rw [bval_bitsOf, bval_bitsOf, Nat.mod_eq_of_lt hx, Nat.mod_eq_of_lt hy] at e
    rw [e, unpack_inj (fun z hz => hA z (by simp [hz])) (fun z hz => hB z (by simp [hz])) h1.2]
theorem bval_zero : ∀ (l : List Bool), bval l = 0 → l = List.replicate l.length false
  | [], _ => rfl
  | b :: l, h => by
    have e : b :: l = [b] ++ l := rfl
    rw [e, bval_append] at h
    have hp := Nat.two_pow_pos l.length
    have hl : bval l = 0 := by omega
    have hb0 : bval [b] * 2 ^ l.length = 0 := by omega
    have hb1 : bval [b] = 0 := by
      rcases Nat.mul_eq_zero.1 hb0 with h | h
      · exact h
      · omega
    have hbf : b = false := by cases b <;> simp [bval] at hb1 ⊢
    rw [hbf, List.length_cons, List.replicate_succ, ← bval_zero l hl]

theorem One.last {B : List Nat} (hB : ∀ x ∈ B, x < 256) {r : Rs} {w : Ws} (h : One (unpack B) r w) (he : r.end_ = 0) : pack w.L = B := by
  obtain ⟨hb, hT⟩ := h
  unfold Rs.end_ at he
  split at he
  · omega
  rename_i hrb
  split at he
  · omega
  rename_i hl
  split at he
  · omega
  rename_i hv
  have hT := hT (by simpa using hrb)
  have hz := bval_zero r.L (by simpa using hv)
  rw [hz] at hT
  have hlen := congrArg List.length hT
  rw [length_unpack, List.length_append, List.length_replicate] at hlen
  refine unpack_inj (pack_lt _) hB ?_
  rw [unpack_pack, hT]
  congr 2
  omega
end Go.Fm
