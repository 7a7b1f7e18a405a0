/- Rows of times in plain Lean: rows are laid and taken again. -/
import Derived.Test.YtakaolcajbhkiaaGreatTm
import Derived.Lib.Hide
namespace Go.Fm
set_option linter.unusedVariables false
set_option linter.unusedSimpArgs false
open Go.RowKit Go.SL

def dAt (l : List Int) (i : Nat) : Nat := if i = 0 then 0 else u64 (l.getD i 0 - l.getD (i - 1) 0)
def tAt (l : List Int) (i : Nat) : List Bool := if i = 0 then bitsOf (u64 (l.getD 0 0)) 64 else tbits (zigzag (wrap64 ((dAt l i : Int) - dAt l (i - 1))))
def tTo (l : List Int) (i : Nat) : List Bool := (List.range i).flatMap (tAt l)
def Rising (l : List Int) : Prop := ∀ i, i + 1 < l.length → l.getD i 0 < l.getD (i + 1) 0
def I64 (l : List Int) : Prop := ∀ t ∈ l, -9223372036854775808 ≤ t ∧ t ≤ 9223372036854775807
theorem I64.getD {l : List Int} (h : I64 l) (i : Nat) : -9223372036854775808 ≤ l.getD i 0 ∧ l.getD i 0 ≤ 9223372036854775807 := by
  by_cases hi : i < l.length
  · have e : l.getD i 0 = l[i] := by simp [List.getD, List.getElem?_eq_getElem hi]
    rw [e]; exact h _ (List.getElem_mem hi)
  · have e : l.getD i 0 = 0 := by simp [List.getD, List.getElem?_eq_none (show l.length ≤ i by omega)]
    rw [e]; omega
theorem dAt_lt (l : List Int) (i : Nat) : dAt l i < 18446744073709551616 := by
  unfold dAt; split
  · omega
  · exact u64_lt _
theorem tTo_zero (l : List Int) : tTo l 0 = [] := rfl
theorem tTo_succ (l : List Int) (i : Nat) : tTo l (i + 1) = tTo l i ++ tAt l i := by simp [tTo, List.range_succ]
theorem dAt_congr {l m : List Int} {i : Nat} (h : ∀ j, j ≤ i → l.getD j 0 = m.getD j 0) : dAt l i = dAt m i := by
  unfold dAt; rw [h i (by omega), h (i - 1) (by omega)]
theorem tAt_congr {l m : List Int} {i : Nat} (h : ∀ j, j ≤ i → l.getD j 0 = m.getD j 0) : tAt l i = tAt m i := by
  unfold tAt
  rw [dAt_congr h, dAt_congr (i := i - 1) (fun j hj => h j (by omega)), h 0 (by omega)]
theorem tTo_congr {l m : List Int} : ∀ {n : Nat}, (∀ j, j < n → l.getD j 0 = m.getD j 0) → tTo l n = tTo m n := by
  intro n
  induction n with
  | zero => intro _; rfl
  | succ n ih =>
    intro h
    rw [tTo_succ, tTo_succ, ih (fun j hj => h j (by omega)), tAt_congr (fun j hj => h j (by omega))]
theorem tTo_split (l : List Int) (i : Nat) : ∀ n, i ≤ n → ∃ Q, tTo l n = tTo l i ++ Q := by
  intro n
  induction n with
  | zero => intro h; obtain rfl : i = 0 := by omega
            exact ⟨[], by simp⟩
  | succ n ih =>
    intro h
    by_cases he : i = n + 1
    · subst he; exact ⟨[], by simp⟩
    · obtain ⟨Q, hQ⟩ := ih (by omega)
      exact ⟨Q ++ tAt l n, by rw [tTo_succ, hQ, List.append_assoc]⟩
theorem tAt_le (l : List Int) (i : Nat) : (tAt l i).length ≤ 68 := by
  unfold tAt; split
  · rw [length_bitsOf]; omega
  · exact tbits_le _
theorem tTo_le (l : List Int) (n : Nat) : (tTo l n).length ≤ 68 * n := by
  induction n with
  | zero => simp [tTo]
  | succ n ih =>
    have := tAt_le l n
    rw [tTo_succ, List.length_append]
    omega

/-- One time is taken. -/
def tstep (x : Rs × Nat × List Int) : Option (Rs × Nat × List Int) :=
  match x.2.2.getLast? with
  | none => some ((x.1.bits 64).2, 0, [wrap64 (x.1.bits 64).1])
  | some p => if x.1.tk.1.2 = true ∧ p < wrap64 (p + u64 (x.2.1 + unzig x.1.tk.1.1)) then some (x.1.tk.2, u64 (x.2.1 + unzig x.1.tk.1.1), x.2.2 ++ [wrap64 (p + u64 (x.2.1 + unzig x.1.tk.1.1))]) else none
def tUp (s : Rs) : Nat → Option (Rs × Nat × List Int)
  | 0 => some (s, 0, [])
  | i + 1 => (tUp s i).bind tstep
def tGet (s : Rs) (n : Nat) : Option (List Int) := (tUp s n).bind fun x => if x.1.end_ = 0 then some x.2.2 else none

theorem tUp_none (s : Rs) (i : Nat) (h : tUp s i = none) : ∀ n, i ≤ n → tUp s n = none := by
  intro n
  induction n with
  | zero => intro hn; obtain rfl : i = 0 := by omega
            exact h
  | succ n ih =>
    intro hn
    by_cases he : i = n + 1
    · subst he; exact h
    · show (tUp s n).bind tstep = none
      rw [ih (by omega)]
      rfl
theorem tstep_len {x y : Rs × Nat × List Int} (h : tstep x = some y) : y.2.2.length = x.2.2.length + 1 := by
  unfold tstep at h
  split at h
  · rename_i hl
    have : x.2.2 = [] := by simpa using hl
    simp only [Option.some.injEq] at h
    rw [← h, this]; rfl
  · split at h
    · simp only [Option.some.injEq] at h
      rw [← h]; simp
    · cases h
theorem tUp_len (s : Rs) : ∀ i x, tUp s i = some x → x.2.2.length = i := by
  intro i
  induction i with
  | zero => intro x h; simp only [tUp, Option.some.injEq] at h; rw [← h]; rfl
  | succ i ih =>
    intro x h
    obtain ⟨y, h1, h2⟩ := Option.bind_eq_some_iff.1 h
    rw [tstep_len h2, ih y h1]

theorem unzig_range (u : Nat) (h : u < 18446744073709551616) : -9223372036854775808 ≤ unzig u ∧ unzig u ≤ 9223372036854775807 := by
  unfold unzig; split <;> omega
theorem wrap64_range (x : Int) : -9223372036854775808 ≤ wrap64 x ∧ wrap64 x ≤ 9223372036854775807 := by unfold wrap64; omega
theorem wrap64_id {x : Int} (h : -9223372036854775808 ≤ x ∧ x ≤ 9223372036854775807) : wrap64 x = x := by unfold wrap64; omega
theorem time_d (d b : Nat) (hd : d < 18446744073709551616) : u64 ((b : Int) + wrap64 ((d : Int) - b)) = d := by unfold u64 wrap64; omega
theorem time_t (p t : Int) (h : -9223372036854775808 ≤ t ∧ t ≤ 9223372036854775807) : wrap64 (p + (u64 (t - p) : Nat)) = t := by unfold u64 wrap64; omega
theorem time_d' (p : Int) (d : Nat) (hd : d < 18446744073709551616) : u64 (wrap64 (p + d) - p) = d := by unfold u64 wrap64; omega
theorem time_b (d : Nat) (z : Int) (hz : -9223372036854775808 ≤ z ∧ z ≤ 9223372036854775807) : wrap64 ((u64 ((d : Int) + z) : Nat) - (d : Int)) = z := by unfold u64 wrap64; omega

theorem take_last {l : List Int} {i : Nat} (h : i + 1 ≤ l.length) : (l.take (i + 1)).getLast? = some (l.getD i 0) := by
  rw [List.take_succ_eq_append_getElem (by omega), List.getLast?_append]
  simp [List.getD, List.getElem?_eq_getElem (show i < l.length by omega)]

theorem tUp_back (l : List Int) (hI : I64 l) (hr : Rising l) (R : List Bool) : ∀ i, i ≤ l.length → ∃ Q, tTo l l.length = tTo l i ++ Q ∧ tUp ⟨tTo l l.length ++ R, 0⟩ i = some (⟨Q ++ R, 0⟩, dAt l (i - 1), l.take i) := by
  intro i
  induction i with
  | zero => intro _; exact ⟨tTo l l.length, rfl, by simp [tUp, dAt]⟩
  | succ i ih =>
    intro hi
    obtain ⟨Q, hQ, hU⟩ := ih (by omega)
    obtain ⟨Q', hQ'⟩ := tTo_split l (i + 1) l.length hi
    have hQ2 : Q = tAt l i ++ Q' := by
      rw [hQ, tTo_succ, List.append_assoc] at hQ'
      exact List.append_cancel_left hQ'
    refine ⟨Q', hQ', ?_⟩
    show (tUp _ i).bind tstep = _
    rw [hU]
    show tstep _ = _
    have hl := hI.getD i
    have hd := dAt_lt l i
    cases i with
    | zero =>
      have e : tAt l 0 = bitsOf (u64 (l.getD 0 0)) 64 := rfl
      rw [hQ2, e]
      unfold tstep
      simp only [List.take_zero, List.getLast?_nil, List.append_assoc]
      have hb : (⟨bitsOf (u64 (l.getD 0 0)) 64 ++ (Q' ++ R), 0⟩ : Rs).bits 64 = (u64 (l.getD 0 0), ⟨Q' ++ R, 0⟩) := take_bits (u64 (l.getD 0 0)) 64 (by decide) (u64_lt _) (Q' ++ R)
      rw [hb]
      simp only [Option.some.injEq, Prod.mk.injEq, true_and]
      refine ⟨rfl, ?_⟩
      have e2 : wrap64 (u64 (l.getD 0 0) : Nat) = l.getD 0 0 := by
        have := time_t 0 (l.getD 0 0) hl
        rwa [Int.zero_add, Int.sub_zero] at this
      rw [e2, List.take_succ_eq_append_getElem (by omega)]
      simp [List.getD, List.getElem?_eq_getElem (show 0 < l.length by omega)]
    | succ i =>
      have e : tAt l (i + 1) = tbits (zigzag (wrap64 ((dAt l (i + 1) : Int) - dAt l i))) := rfl
      have hz := zigzag_lt _ (wrap64_range ((dAt l (i + 1) : Int) - dAt l i)).1 (wrap64_range ((dAt l (i + 1) : Int) - dAt l i)).2
      have hlt := hr i (by omega)
      have hdd : dAt l (i + 1) = u64 (l.getD (i + 1) 0 - l.getD i 0) := rfl
      unfold tstep
      rw [hQ2, e]
      simp only [take_last (show i + 1 ≤ l.length by omega), List.append_assoc]
      rw [tk_tbits _ hz (Q' ++ R)]
      simp only [Nat.add_sub_cancel, unzig_zigzag]
      rw [time_d _ _ hd, hdd, time_t _ _ hl, ← hdd, if_pos ⟨by trivial, hlt⟩]
      simp only [Option.some.injEq, Prod.mk.injEq, true_and]
      rw [List.take_succ_eq_append_getElem (show i + 1 < l.length by omega)]
      simp [List.getD, List.getElem?_eq_getElem (show i + 1 < l.length by omega)]

theorem bad_step {x y : Rs × Nat × List Int} (h : tstep x = some y) (hb : y.1.bad = 0) : x.1.bad = 0 := by
  unfold tstep at h
  split at h
  · simp only [Option.some.injEq] at h
    rw [← h] at hb
    exact (bits_eq x.1 64 (by decide) hb).1
  · split at h
    · rename_i hc
      simp only [Option.some.injEq] at h
      rw [← h] at hb
      exact (tk_got x.1 hb hc.1).1
    · cases h
theorem getD_app_lt {l : List Int} {t : Int} {j : Nat} (h : j < l.length) : (l ++ [t]).getD j 0 = l.getD j 0 := by simp [List.getD, List.getElem?_append_left h]
theorem getD_app_eq {l : List Int} {t : Int} : (l ++ [t]).getD l.length 0 = t := by simp [List.getD]
theorem getLast_getD {l : List Int} {p : Int} (h : l.getLast? = some p) : 0 < l.length ∧ l.getD (l.length - 1) 0 = p := by
  rw [List.getLast?_eq_getElem?] at h
  have hl := (List.getElem?_eq_some_iff.1 h).1
  refine ⟨by omega, ?_⟩
  simp [List.getD, h]
theorem front_first {y : Rs} (hb : (y.bits 64).2.bad = 0) : y.L = tTo [wrap64 (y.bits 64).1] 1 ++ (y.bits 64).2.L := by
  have h := bits_eq y 64 (by decide) hb
  have b2 : y.L = bitsOf (y.bits 64).1 64 ++ (y.bits 64).2.L := h.2
  have hlt : (y.bits 64).1 < 18446744073709551616 := bits_lt64 y 64 (by decide)
  have e : tTo [wrap64 (y.bits 64).1] 1 = bitsOf (u64 (wrap64 (y.bits 64).1)) 64 := by
    rw [tTo_succ, tTo_zero, List.nil_append]
    unfold tAt
    rw [if_pos rfl, List.getD_cons_zero]
  rw [e]
  have e2 : u64 (wrap64 ((y.bits 64).1 : Nat)) = (y.bits 64).1 := by
    have := time_d' 0 (y.bits 64).1 hlt
    rwa [Int.zero_add, Int.sub_zero] at this
  rw [e2]
  exact b2
theorem front_next {y : Rs} {d0 : Nat} {m : List Int} {i : Nat} {p t : Int} {d : Nat} (hlen : m.length = i + 1) (hp : m.getD i 0 = p) (hb : y.tk.2.bad = 0) (hc : y.tk.1.2 = true) (hd0 : d0 = dAt m i)
    (hd : d = u64 ((d0 : Int) + unzig y.tk.1.1)) (ht : t = wrap64 (p + (d : Nat))) (hpt : p < t) (hm : Rising m) (hI : I64 m) :
    tTo m (i + 1) ++ y.L = tTo (m ++ [t]) (i + 2) ++ y.tk.2.L ∧ Rising (m ++ [t]) ∧ I64 (m ++ [t]) ∧ d = dAt (m ++ [t]) (i + 1) := by
  obtain ⟨b1, b2, b3⟩ := tk_got y hb hc
  have hdlt : d < 18446744073709551616 := by rw [hd]; exact u64_lt _
  have htd : u64 (t - p) = d := by rw [ht]; exact time_d' p d hdlt
  have hzb : wrap64 ((d : Int) - d0) = unzig y.tk.1.1 := by rw [hd]; exact time_b d0 _ (unzig_range _ b3)
  have htr : -9223372036854775808 ≤ t ∧ t ≤ 9223372036854775807 := by rw [ht]; exact wrap64_range _
  replace ht := Lib.hid ht
  replace hd := Lib.hid hd
  replace hzb := Lib.hid hzb
  have hg1 : (m ++ [t]).getD (i + 1) 0 = t := by
    have := getD_app_eq (l := m) (t := t)
    rwa [hlen] at this
  have hg0 : (m ++ [t]).getD i 0 = p := by rw [getD_app_lt (by omega), hp]
  have hdA : dAt (m ++ [t]) (i + 1) = d := by
    unfold dAt
    rw [if_neg (by omega), Nat.add_sub_cancel, hg1, hg0]
    exact htd
  have hdB : dAt (m ++ [t]) i = d0 := by
    rw [hd0]
    exact dAt_congr fun j hj => getD_app_lt (by omega)
  have e1 : tTo (m ++ [t]) (i + 1) = tTo m (i + 1) := tTo_congr fun j hj => getD_app_lt (by omega)
  have e2 : tAt (m ++ [t]) (i + 1) = tbits y.tk.1.1 := by
    unfold tAt
    rw [if_neg (by omega), Nat.add_sub_cancel, hdA, hdB, hzb.out, zigzag_unzig]
  refine ⟨?_, ?_, ?_, hdA.symm⟩
  · rw [show tTo (m ++ [t]) (i + 2) = tTo (m ++ [t]) (i + 1) ++ tAt (m ++ [t]) (i + 1) from tTo_succ _ _, e1, e2, List.append_assoc, ← b2]
  · intro j hj
    rw [List.length_append, List.length_singleton, hlen] at hj
    by_cases hji : j = i
    · subst hji; rw [hg1, hg0]; exact hpt
    · rw [getD_app_lt (by omega), getD_app_lt (by omega)]
      exact hm j (by omega)
  · intro t' ht'
    rcases List.mem_append.1 ht' with h | h
    · exact hI t' h
    · rw [List.mem_singleton.1 h]; exact htr
theorem tUp_front (s : Rs) : ∀ i x, tUp s i = some x → x.1.bad = 0 → s.bad = 0 ∧ s.L = tTo x.2.2 i ++ x.1.L ∧ Rising x.2.2 ∧ I64 x.2.2 ∧ x.2.1 = dAt x.2.2 (i - 1) := by
  intro i
  induction i with
  | zero =>
    intro x h hb
    simp only [tUp, Option.some.injEq] at h
    rw [← h] at hb ⊢
    exact ⟨hb, rfl, fun i hi => (by simp at hi), fun t ht => (by cases ht), rfl⟩
  | succ i ih =>
    intro x h hb
    obtain ⟨y, h1, h2⟩ := Option.bind_eq_some_iff.1 h
    have hlen := tUp_len s i y h1
    obtain ⟨k1, k2, k3, k4, k5⟩ := ih y h1 (bad_step h2 hb)
    refine ⟨k1, ?_⟩
    unfold tstep at h2
    split at h2
    · rename_i hl
      have hnil : y.2.2 = [] := by simpa using hl
      obtain rfl : i = 0 := by rw [← hlen, hnil]; rfl
      simp only [Option.some.injEq] at h2
      rw [← h2] at hb ⊢
      refine ⟨?_, fun i hi => (by simp at hi), ?_, rfl⟩
      · rw [k2, tTo_zero, List.nil_append]
        exact front_first hb
      · intro t ht
        simp only [List.mem_singleton] at ht
        rw [ht]
        exact wrap64_range _
    · rename_i p hl
      obtain ⟨hpos, hp⟩ := getLast_getD hl
      split at h2
      · rename_i hc
        simp only [Option.some.injEq] at h2
        obtain ⟨hc1, hc2⟩ := hc
        rw [← h2] at hb ⊢
        obtain ⟨i, rfl⟩ : ∃ i', i = i' + 1 := ⟨i - 1, by omega⟩
        have hp' : y.2.2.getD i 0 = p := by rw [← hp]; congr 1; omega
        rw [k2]
        exact front_next hlen hp' hb hc1 k5 rfl rfl hc2 k3 k4
      · cases h2

theorem tGet_back (l : List Int) (hI : I64 l) (hr : Rising l) : tGet ⟨unpack (pack (tTo l l.length)), 0⟩ l.length = some l := by
  unfold tGet
  rw [unpack_pack]
  obtain ⟨Q, hQ, hU⟩ := tUp_back l hI hr (List.replicate ((8 - (tTo l l.length).length % 8) % 8) false) l.length (Nat.le_refl _)
  rw [hU]
  have hQ0 : Q = [] := List.append_right_eq_self.1 hQ.symm
  subst hQ0
  show (if _ then _ else _) = _
  rw [List.nil_append, end_spare _ (by omega), if_pos rfl, List.take_length]
theorem tGet_front {B : List Nat} (hB : ∀ x ∈ B, x < 256) {n : Nat} {l : List Int} (h : tGet ⟨unpack B, 0⟩ n = some l) : l.length = n ∧ Rising l ∧ I64 l ∧ pack (tTo l n) = B := by
  unfold tGet at h
  obtain ⟨x, h1, h2⟩ := Option.bind_eq_some_iff.1 h
  by_cases he : x.1.end_ = 0
  · rw [if_pos he] at h2
    simp only [Option.some.injEq] at h2
    subst h2
    have hb : x.1.bad = 0 := by
      unfold Rs.end_ at he
      split at he
      · omega
      · omega
    obtain ⟨k1, k2, k3, k4, k5⟩ := tUp_front _ n x h1 hb
    refine ⟨tUp_len _ _ _ h1, k3, k4, ?_⟩
    exact One.last hB (w := ⟨tTo x.2.2 n, 0⟩) (r := x.1) ⟨rfl, fun _ => k2⟩ he
  · rw [if_neg he] at h2; cases h2
end Go.Fm
