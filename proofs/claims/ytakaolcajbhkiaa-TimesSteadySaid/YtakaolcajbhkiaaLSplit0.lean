/- Within; what the law BitsSplits lays, in plain numbers. -/
import Derived.Test.YtakaolcajbhkiaaLW
import Derived.Test.YtakaolcajbhkiaaOps
namespace Go.Proofs.Ytakaolcajbhkiaa
set_option linter.unusedVariables false
set_option linter.unusedSimpArgs false
open Go.RowKit Go.SL Go.Fm

theorem Within_c (i n : Int) (hi : -9223372036854775808 ≤ i ∧ i ≤ 9223372036854775807) (h0 : 0 < n) (hn : n ≤ 1000000) (w : World) :
    Calls Try.prog 14 #[.int .i64 i, .int .i64 n] w (fun e w' => e = .returned (.int .i64 (i % n)) ∧ w' = w) := by
  obtain ⟨r, hr, h1, h2, h3⟩ : ∃ r, i.tmod n = r ∧ -n < r ∧ r < n ∧ i % n = if r < 0 then r + n else r := by
    by_cases h : 0 ≤ i
    · refine ⟨i % n, Int.tmod_eq_emod_of_nonneg h, ?_, Int.emod_lt_of_pos _ h0, ?_⟩
      · have := Int.emod_nonneg i (show n ≠ 0 by omega); omega
      · rw [if_neg]; have := Int.emod_nonneg i (show n ≠ 0 by omega); omega
    · obtain ⟨m, rfl⟩ : ∃ m, i = -m := ⟨-i, by omega⟩
      have e : (-m).tmod n = -(m % n) := by rw [Int.neg_tmod, Int.tmod_eq_emod_of_nonneg (by omega)]
      have p1 := Int.emod_nonneg m (show n ≠ 0 by omega)
      have p2 := Int.emod_lt_of_pos m h0
      refine ⟨-(m % n), e, by omega, by omega, ?_⟩
      have e2 : m = n * (m / n) + m % n := (Int.mul_ediv_add_emod m n).symm
      by_cases hz : m % n = 0
      · rw [if_neg (by omega), hz]
        rw [hz] at e2
        rw [e2, Int.add_zero, ← Int.mul_neg, Int.mul_emod_right]
        rfl
      · rw [if_pos (by omega)]
        have e3 : -m = (-(m % n) + n) + n * (-(m / n) - 1) := by
          rw [Int.mul_sub, Int.mul_neg]
          omega
        rw [e3, Int.add_mul_emod_self_left, Int.emod_eq_of_lt (by omega) (by omega)]
  rw [h3]
  replace h3 := Lib.hid h3
  go_enter Try.func14, Try.ntmps14
  by_cases hr0 : r < 0
  · rw [if_pos hr0]
    go_wp2
    go_ret
    exact ⟨rfl, rfl⟩
  · rw [if_neg hr0]
    go_wp2
    go_ret
    exact ⟨rfl, rfl⟩

/-- The width, the lower part's width, the number of an operation. -/
def wdt (o : OpD) : Nat := (o.n % 65).toNat
def loww (o : OpD) : Nat := (o.on % (wdt o + 1 : Nat)).toNat
def numo (o : OpD) : Nat := if wdt o < 64 then o.x % 2 ^ wdt o else o.x
def obits (o : OpD) : List Bool := bitsOf (numo o) (wdt o)
def allBits (l : List OpD) : List Bool := l.flatMap obits
end Go.Proofs.Ytakaolcajbhkiaa
