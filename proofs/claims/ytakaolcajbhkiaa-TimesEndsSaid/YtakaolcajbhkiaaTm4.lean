/- Rows of times in plain Lean: moved rows, rows at equal distances. -/
import Derived.Test.YtakaolcajbhkiaaTm3
namespace Go.Fm
set_option linter.unusedVariables false
set_option linter.unusedSimpArgs false
open Go.RowKit Go.SL

theorem pack_split (X Y : List Bool) (h : X.length % 8 = 0) : pack (X ++ Y) = pack X ++ pack Y := by
  refine unpack_inj (pack_lt _) (fun x hx => ?_) ?_
  · rcases List.mem_append.1 hx with h | h
    · exact pack_lt _ x h
    · exact pack_lt _ x h
  · rw [unpack_append, unpack_pack, unpack_pack, unpack_pack, h, List.length_append]
    rw [show (X.length + Y.length) % 8 = Y.length % 8 by omega]
    simp
theorem tAt_moved {l m : List Int} {by_ : Int} {i : Nat} (h0 : i ≠ 0) (h : ∀ j, j ≤ i → m.getD j 0 = l.getD j 0 + by_) : tAt m i = tAt l i := by
  have hd : ∀ j, j ≤ i → dAt m j = dAt l j := by
    intro j hj
    unfold dAt
    by_cases hj0 : j = 0
    · rw [if_pos hj0, if_pos hj0]
    · rw [if_neg hj0, if_neg hj0, h j hj, h (j - 1) (by omega)]
      congr 1
      omega
  unfold tAt
  rw [if_neg h0, if_neg h0, hd i (Nat.le_refl _), hd (i - 1) (by omega)]
theorem tTo_moved {l m : List Int} {by_ : Int} : ∀ n, (∀ j, j < n + 1 → m.getD j 0 = l.getD j 0 + by_) → ∃ Y, tTo l (n + 1) = bitsOf (u64 (l.getD 0 0)) 64 ++ Y ∧ tTo m (n + 1) = bitsOf (u64 (m.getD 0 0)) 64 ++ Y := by
  intro n
  induction n with
  | zero =>
    intro _
    refine ⟨[], ?_, ?_⟩ <;> rw [tTo_succ, tTo_zero, List.append_nil, List.nil_append] <;> unfold tAt <;> rw [if_pos rfl]
  | succ n ih =>
    intro h
    obtain ⟨Y, h1, h2⟩ := ih fun j hj => h j (by omega)
    refine ⟨Y ++ tAt l (n + 1), ?_, ?_⟩
    · rw [tTo_succ, h1, List.append_assoc]
    · rw [tTo_succ, h2, List.append_assoc, tAt_moved (by omega) (fun j hj => h j (by omega))]
theorem times_moved {l m : List Int} {by_ : Int} {n : Nat} (hn : 0 < n) (h : ∀ j, j < n → m.getD j 0 = l.getD j 0 + by_) :
    (pack (tTo l n)).length = (pack (tTo m n)).length ∧ 8 ≤ (pack (tTo l n)).length ∧ (pack (tTo l n)).drop 8 = (pack (tTo m n)).drop 8 := by
  obtain ⟨k, rfl⟩ : ∃ k, n = k + 1 := ⟨n - 1, by omega⟩
  obtain ⟨Y, h1, h2⟩ := tTo_moved k h
  have hl : ∀ x : Nat, (pack (bitsOf x 64)).length = 8 := fun x => by rw [length_pack, length_bitsOf]
  rw [h1, h2, pack_split _ _ (by rw [length_bitsOf]), pack_split _ _ (by rw [length_bitsOf])]
  refine ⟨by rw [List.length_append, List.length_append, hl, hl], by rw [List.length_append, hl]; omega, ?_⟩
  rw [List.drop_left' (hl _), List.drop_left' (hl _)]
theorem Rising.le {l : List Int} (h : Rising l) (i : Nat) : ∀ j, i ≤ j → j < l.length → l.getD i 0 ≤ l.getD j 0 := by
  intro j
  induction j with
  | zero => intro h1 _; obtain rfl : i = 0 := by omega
            exact Int.le_refl _
  | succ j ih =>
    intro h1 h2
    by_cases he : i = j + 1
    · rw [he]; exact Int.le_refl _
    · have := ih (by omega) (by omega)
      have := h j h2
      omega
theorem Rising.moved {l m : List Int} {by_ : Int} (h : Rising l) (hl : m.length = l.length) (hm : ∀ j, j < l.length → m.getD j 0 = l.getD j 0 + by_) : Rising m := by
  intro i hi
  rw [hm i (by omega), hm (i + 1) (by omega)]
  have := h i (by omega)
  omega

/-- Equal distances. -/
theorem tTo_steady {l : List Int} {by_ : Nat} (hb : 1 ≤ by_) (hb2 : by_ < 9223372036854775808) (h : ∀ i, i + 1 < l.length → l.getD (i + 1) 0 = l.getD i 0 + by_) :
    ∀ n, n ≤ l.length → (tTo l n).length = if n = 0 then 0 else if n = 1 then 64 else 64 + (tbits (2 * by_)).length + (n - 2) := by
  have hd : ∀ i, i + 1 < l.length → dAt l (i + 1) = by_ := by
    intro i hi
    unfold dAt
    rw [if_neg (by omega), Nat.add_sub_cancel, h i hi]
    unfold u64
    omega
  intro n
  induction n with
  | zero => intro _; simp [tTo]
  | succ n ih =>
    intro hn
    rw [tTo_succ, List.length_append, ih (by omega), if_neg (show ¬ n + 1 = 0 by omega)]
    by_cases h0 : n = 0
    · subst h0
      simp [tAt, length_bitsOf]
    · rw [if_neg h0]
      obtain ⟨k, rfl⟩ : ∃ k, n = k + 1 := ⟨n - 1, by omega⟩
      have e : tAt l (k + 1) = tbits (zigzag (wrap64 ((by_ : Int) - dAt l k))) := by
        unfold tAt
        rw [if_neg (by omega), hd k (by omega)]
        rfl
      rw [e]
      by_cases h1 : k = 0
      · subst h1
        have e2 : zigzag (wrap64 ((by_ : Int) - dAt l 0)) = 2 * by_ := by
          have : dAt l 0 = 0 := rfl
          rw [this, wrap64_id (by omega)]
          unfold zigzag
          rw [if_neg (by omega)]
          omega
        rw [e2]
        simp
      · have e2 : zigzag (wrap64 ((by_ : Int) - dAt l k)) = 0 := by
          obtain ⟨j, rfl⟩ : ∃ j, k = j + 1 := ⟨k - 1, by omega⟩
          rw [hd j (by omega), Int.sub_self, wrap64_id (by omega)]
          rfl
        rw [e2, show (tbits 0).length = 1 from rfl, if_neg (show ¬ k + 1 = 1 by omega), if_neg (show ¬ k + 1 + 1 = 1 by omega)]
        omega
end Go.Fm
