/- Rows of times in plain Lean: beginnings. -/
import Derived.Test.YtakaolcajbhkiaaGreatTm2
namespace Go.Fm
set_option linter.unusedVariables false
set_option linter.unusedSimpArgs false
open Go.RowKit Go.SL

/-- The full bytes of bits begin as those of more bits. -/
theorem pack_get (L : List Bool) (i : Nat) (h : 8 * (i + 1) ≤ L.length) : (pack L)[i]? = some (byte ((L.drop (8 * i)).take 8)) := by
  have hf : (fullB L)[i]? = some (byte ((L.drop (8 * i)).take 8)) := by
    unfold fullB
    rw [List.getElem?_map, List.getElem?_range (by omega)]
    rfl
  unfold pack
  split
  · exact hf
  · rw [List.getElem?_append_left (by rw [length_fullB]; omega)]
    exact hf
theorem pack_front (L M : List Bool) : (pack L).take ((pack L).length - 1) = (pack (L ++ M)).take ((pack L).length - 1) := by
  apply List.ext_getElem?
  intro i
  have hp := length_pack L
  rw [List.getElem?_take, List.getElem?_take]
  by_cases h : i < (pack L).length - 1
  · rw [if_pos h, if_pos h, pack_get L i (by omega), pack_get (L ++ M) i (by rw [List.length_append]; omega)]
    congr 2
    rw [List.drop_append_of_le_length (by omega), List.take_append_of_le_length (by rw [List.length_drop]; omega)]
  · rw [if_neg h, if_neg h]
theorem pack_len_mono (L M : List Bool) : (pack L).length ≤ (pack (L ++ M)).length := by
  rw [length_pack, length_pack, List.length_append]
  omega

theorem getD_take {l : List Int} {m i : Nat} (h : i < m) : (l.take m).getD i 0 = l.getD i 0 := by
  simp [List.getD, List.getElem?_take, h]
theorem tTo_take (l : List Int) (m : Nat) : tTo (l.take m) m = tTo l m := tTo_congr fun j hj => getD_take hj
theorem Rising.take {l : List Int} (h : Rising l) (m : Nat) : Rising (l.take m) := by
  intro i hi
  rw [List.length_take] at hi
  rw [getD_take (by omega), getD_take (by omega)]
  exact h i (by omega)
theorem I64.take {l : List Int} (h : I64 l) (m : Nat) : I64 (l.take m) := fun t ht => h t (List.mem_of_mem_take ht)

/-- The bytes of a row, and of its beginning. -/
theorem times_len (l : List Int) (n : Nat) : (pack (tTo l n)).length ≤ 9 * n := by
  have := tTo_le l n
  rw [length_pack]
  omega
theorem times_begin (l : List Int) (k : Nat) : (pack (tTo l k)).length ≤ (pack (tTo l (k + 1))).length ∧
    (pack (tTo l k)).take ((pack (tTo l k)).length - 1) = (pack (tTo l (k + 1))).take ((pack (tTo l k)).length - 1) := by
  rw [tTo_succ]
  exact ⟨pack_len_mono _ _, pack_front _ _⟩
theorem times_less (l : List Int) (k : Nat) (hk : l.length = k + 1) (hI : I64 l) (hr : Rising l) (m : List Int) (h : tGet ⟨unpack (pack (tTo l (k + 1))), 0⟩ k = some m) :
    pack (tTo l k) = pack (tTo l (k + 1)) := by
  have hf := tGet_front (pack_lt _) h
  unfold tGet at h
  rw [unpack_pack] at h
  obtain ⟨Q, hQ, hU⟩ := tUp_back l hI hr (List.replicate ((8 - (tTo l (k + 1)).length % 8) % 8) false) k (by omega)
  rw [hk] at hU
  rw [hU] at h
  have h' : (if (⟨Q ++ List.replicate ((8 - (tTo l (k + 1)).length % 8) % 8) false, 0⟩ : Rs).end_ = 0 then some (l.take k) else none) = some m := h
  split at h'
  · simp only [Option.some.injEq] at h'
    rw [← h'] at hf
    rw [← tTo_take l k]
    exact hf.2.2.2
  · cases h'
end Go.Fm
