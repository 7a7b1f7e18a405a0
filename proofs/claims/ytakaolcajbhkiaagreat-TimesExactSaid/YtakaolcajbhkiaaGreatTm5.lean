/- Rows of times: a reader that has failed stays so. -/
import Derived.Test.YtakaolcajbhkiaaGreatTm2
namespace Go.Fm
theorem tUp_bad (s : Rs) (i : Nat) {x : Rs × Nat × List Int} (h : tUp s i = some x) (hb : x.1.bad ≠ 0) : ∀ k y, tUp s (i + k) = some y → y.1.bad ≠ 0 := by
  intro k
  induction k with
  | zero =>
    intro y hy
    rw [Nat.add_zero, h] at hy
    cases hy
    exact hb
  | succ k ih =>
    intro y hy hb2
    have hy' : (tUp s (i + k)).bind tstep = some y := hy
    obtain ⟨z, h1, h2⟩ := Option.bind_eq_some_iff.1 hy'
    exact ih z h1 (bad_step h2 hb2)
theorem tGet_bad (s : Rs) (i : Nat) {x : Rs × Nat × List Int} (h : tUp s i = some x) (hb : x.1.bad ≠ 0) {n : Nat} (hn : i ≤ n) : tGet s n = none := by
  unfold tGet
  cases hy : tUp s n with
  | none => rfl
  | some y =>
    obtain ⟨k, rfl⟩ := Nat.le.dest hn
    have := tUp_bad s i h hb k y hy
    show (if _ then _ else _) = _
    rw [if_neg]
    unfold Rs.end_
    rw [if_pos this]
    exact this
end Go.Fm
