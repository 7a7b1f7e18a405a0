/- The document's reader of bits: its assertion, refuse, number, Left, End. -/
import Derived.Test.YtngnfdlkkedaaaaR1
import Derived.Test.YtngnfdlkkedaaaaBR5
import Derived.ScopeJumps
namespace Go.Proofs.Ytngnfdlkkedaaaa
set_option linter.unusedVariables false
set_option linter.unusedSimpArgs false
open Go.RowKit Go.SL Go.Fm

/-- A slice INTO a block of its own. -/
def part (E : TypeId) (v : Value) (n : Nat) (xs : List Value) : HProp := fun h =>
  xs.length = n ∧ ((v = .slice none 0 0 ∧ n = 0 ∧ h = hemp) ∨
    ∃ g off cap cs, v = .slice (some ⟨g, off, none⟩) n cap ∧ n ≤ cap ∧ cap ≤ maxLen ∧ h = hone g (.cells cs E (0, 0)) ∧ ∀ j x, xs[j]? = some x → cs[off + j]? = some x)
theorem part_is {E : TypeId} {v : Value} {n : Nat} {xs : List Value} {w : World} {F : List HProp} (H : Holds w (part E v n xs :: F)) : SliceIs w 1 v n xs := by
  obtain ⟨x, ⟨a, b, hab, rfl, ⟨hl, ha⟩, hb⟩, hw⟩ := H
  refine ⟨by omega, ?_⟩
  rcases ha with ⟨h1, h2, _⟩ | ⟨g, off, cap, cs, rfl, h1, h2, rfl, h3⟩
  · exact .inl ⟨h1, h2⟩
  · refine .inr ⟨⟨g, off, none⟩, cap, rfl, h1, h2, ?_⟩
    have hg : Holds w (pts g (.cells cs E (0, 0)) :: F) := ⟨_, ⟨_, b, hab, rfl, rfl, hb⟩, hw⟩
    intro j u hu
    rw [add_plain', hg.cell]
    exact h3 j u hu
theorem part_of_own {E : TypeId} {v : Value} {n : Nat} {xs : List Value} {w : World} {F : List HProp} (H : Holds w (own E 1 v n xs :: F)) : Holds w (part E v n xs :: F) := by
  refine H.mono ?_
  rintro h ⟨rest, hl, hh⟩
  refine ⟨by omega, ?_⟩
  rcases hh with ⟨h1, h2, _, h3⟩ | ⟨g, cap, h1, h2, h3, _, h4⟩
  · exact .inl ⟨h1, h2, h3⟩
  · refine .inr ⟨g, 0, cap, _, h1, h2, h3, h4, fun j x hj => ?_⟩
    rw [Nat.zero_add, List.getElem?_toArray, List.getElem?_append_left (List.getElem?_eq_some_iff.1 hj).1]
    exact hj
/-- Its end, from the m-th on. -/
theorem part_drop {E : TypeId} {a : Option Addr} {n c m : Nat} {xs : List Value} {w : World} {F : List HProp} (H : Holds w (part E (.slice a n c) n xs :: F)) (hm : m ≤ n) :
    (a = none → m = 0 → Holds w (part E (.slice none 0 0) 0 (xs.drop m) :: F)) ∧ (∀ g off c', a = some ⟨g, off, none⟩ → n - m ≤ c' → c' ≤ maxLen → ∀ off', (off' = off + m ∨ n - m = 0) → Holds w (part E (.slice (some ⟨g, off', none⟩) (n - m) c') (n - m) (xs.drop m) :: F)) := by
  constructor
  · rintro rfl rfl
    refine H.mono ?_
    rintro h ⟨hl, hh⟩
    rcases hh with ⟨h1, h2, h3⟩ | ⟨g, off, cap, cs, h1, _⟩
    · exact ⟨by rw [List.length_drop]; omega, .inl ⟨rfl, rfl, h3⟩⟩
    · simp at h1
  · rintro g off c' rfl hc hc' off' ho
    refine H.mono ?_
    rintro h ⟨hl, hh⟩
    rcases hh with ⟨h1, h2, h3⟩ | ⟨g', off2, cap, cs, h1, h2, h3, h4, h5⟩
    · simp at h1
    · simp only [Value.slice.injEq, Option.some.injEq, Addr.mk.injEq] at h1
      obtain ⟨⟨rfl, rfl, _⟩, _, rfl⟩ := h1
      refine ⟨by rw [List.length_drop]; omega, .inr ⟨g, off', c', cs, rfl, hc, hc', h4, fun j x hj => ?_⟩⟩
      rcases ho with rfl | h0
      · rw [List.getElem?_drop] at hj
        rw [Nat.add_assoc]
        exact h5 _ _ hj
      · have := (List.getElem?_eq_some_iff.1 hj).1
        rw [List.length_drop] at this
        omega

/-- The document's reader, by its state. -/
def qS (b : Nat) (s : Rs) : HProp := fun h => ∃ v, sep (pts b (.cells #[v, .int .i64 (s.bad : Nat)] 113 (0, 0))) (part 5 v s.L.length (bv (nums s.L))) h
theorem qS_open {b : Nat} {s : Rs} {w : World} {F : List HProp} (h : Holds w (qS b s :: F)) :
    ∃ v, Holds w (pts b (.cells #[v, .int .i64 (s.bad : Nat)] 113 (0, 0)) :: part 5 v s.L.length (bv (nums s.L)) :: F) := by
  obtain ⟨v, h⟩ := Holds.elim h
  exact ⟨v, h.split⟩
theorem qS_shut {b : Nat} {s : Rs} {w : World} {F : List HProp} {v : Value} {L : List Bool} {bad : Nat} (hL : s.L = L) (hb : s.bad = bad)
    (h : Holds w (pts b (.cells #[v, .int .i64 (bad : Nat)] 113 (0, 0)) :: part 5 v L.length (bv (nums L)) :: F)) : Holds w (qS b s :: F) := by
  subst hL hb
  exact h.unsplit.mono fun _ hx => ⟨v, hx⟩

set_option maxRecDepth 100000 in
theorem rrRefuse_c (b : Nat) (e : Nat) (s : Rs) (w : World) (F : List HProp) (H : Holds w (qS b s :: F)) :
    Calls Try.prog 100 #[.pointer (some ⟨b, 0, none⟩), .int .i64 e] w (Ret w (.tuple #[]) (qS b (s.refuse e) :: F)) := by
  obtain ⟨v, H1⟩ := qS_open H
  have c1 := H1.cell 1
  have z1 := H1.free 1
  simp at c1
  unfold Rs.refuse
  by_cases hb : s.bad = 0
  · rw [if_pos hb]
    rw [hb] at c1
    go_enter Try.func100, Try.ntmps100
    go_wp2
    go_end0
    exact ⟨rfl, qS_shut rfl rfl (H1.store 1 _), (Str.refl w).setCell _ _⟩
  · rw [if_neg hb]
    have hb' : ((s.bad : Int) == 0) = false := by simp; omega
    go_enter Try.func100, Try.ntmps100
    go_wp2
    go_end0
    exact ⟨rfl, H, Str.refl w⟩
end Go.Proofs.Ytngnfdlkkedaaaa
