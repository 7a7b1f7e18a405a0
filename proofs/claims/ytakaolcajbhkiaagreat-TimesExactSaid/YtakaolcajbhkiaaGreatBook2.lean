/- The laws' Book: what it keeps; its marks; tight. -/
import Derived.Test.YtakaolcajbhkiaaGreatBook1
import Derived.Test.YtakaolcajbhkiaaGreatLTop
import Derived.Test.YtakaolcajbhkiaaGreatSL2
import Derived.Test.YtakaolcajbhkiaaGreatBW
namespace Go.Fm
/-- Byte k of the mark of list m. -/
def atN (m k : Nat) : Nat := if k % 2 = 0 then 1 + m % 251 else 1 + (7 * m + m / 251) % 251
theorem atN_lt (m k : Nat) : atN m k < 256 := by unfold atN; split <;> omega
end Go.Fm
namespace Go.SL
set_option linter.unusedVariables false
set_option linter.unusedSimpArgs false
open Go.RowKit Go.Fm
def mkB (m k : Nat) : Value := .int .u8 (atN m k : Nat)
/-- The lists of one kind. -/
def kindS (TL TO E : TypeId) (mk : Nat → Nat → Value) (vL vO : Value) (es : List En) : HProp := fun h =>
  ∃ l : List Rw, (∀ e ∈ es, EnOk l e) ∧ sep (own TL 1 vL es.length (es.map fun e => e.v)) (sep (own TO 1 vO es.length (es.map fun e => .int .i64 (e.m : Nat))) (rowsS E mk l)) h
theorem kindS_open {TL TO E : TypeId} {mk : Nat → Nat → Value} {vL vO : Value} {es : List En} {w : World} {F : List HProp} (h : Holds w (kindS TL TO E mk vL vO es :: F)) :
    ∃ l : List Rw, (∀ e ∈ es, EnOk l e) ∧ Holds w (own TL 1 vL es.length (es.map fun e => e.v) :: own TO 1 vO es.length (es.map fun e => .int .i64 (e.m : Nat)) :: rowsS E mk l :: F) := by
  obtain ⟨l, h⟩ := Holds.elim h
  obtain ⟨h1, h⟩ := Holds.elimP h
  exact ⟨l, h1, (h.split.swap.split.pull2 : Holds w (_ :: _ :: _ :: F))⟩
theorem kindS_shut {TL TO E : TypeId} {mk : Nat → Nat → Value} {vL vO : Value} {es : List En} {w : World} {F : List HProp} {l : List Rw} (h1 : ∀ e ∈ es, EnOk l e)
    (h : Holds w (own TL 1 vL es.length (es.map fun e => e.v) :: own TO 1 vO es.length (es.map fun e => .int .i64 (e.m : Nat)) :: rowsS E mk l :: F)) : Holds w (kindS TL TO E mk vL vO es :: F) := by
  have h2 : Holds w (rowsS E mk l :: own TL 1 vL es.length (es.map fun e => e.v) :: own TO 1 vO es.length (es.map fun e => .int .i64 (e.m : Nat)) :: F) := h.pull2
  have h3 : Holds w (own TO 1 vO es.length (es.map fun e => .int .i64 (e.m : Nat)) :: rowsS E mk l :: own TL 1 vL es.length (es.map fun e => e.v) :: F) := h2.pull2
  have h4 := h3.unsplit.swap.unsplit
  exact h4.mono fun _ hx => ⟨l, h1, hx⟩
end Go.SL
namespace Go.Proofs.YtakaolcajbhkiaaGreat
set_option linter.unusedVariables false
set_option linter.unusedSimpArgs false
open Go.RowKit Go.SL Go.Fm

/-- The Book's cells. -/
structure Bk where
  bv : Value
  bo : Value
  ba : Nat
  wv : Value
  wo : Value
  wa : Nat
  sv : Value
  so : Value
  sa : Nat
  tv : Value
  to_ : Value
  ta : Nat
  turn : Nat
  done : Nat
  used : Nat
def bkCells (x : Bk) : Array Value := #[x.bv, x.bo, .int .i64 x.ba, .slice none 0 0, .slice none 0 0, .int .i64 0, .slice none 0 0, .slice none 0 0, .int .i64 0, .slice none 0 0, .slice none 0 0, .int .i64 0,
  x.wv, x.wo, .int .i64 x.wa, x.sv, x.so, .int .i64 x.sa, x.tv, x.to_, .int .i64 x.ta,
  .slice none 0 0, .slice none 0 0, .int .i64 0, .slice none 0 0, .slice none 0 0, .int .i64 0, .slice none 0 0, .slice none 0 0, .int .i64 0, .slice none 0 0, .slice none 0 0, .int .i64 0,
  .slice none 0 0, .slice none 0 0, .int .i64 0, .slice none 0 0, .slice none 0 0, .int .i64 0, .slice none 0 0, .slice none 0 0, .int .i64 0, .slice none 0 0, .slice none 0 0, .int .i64 0,
  .slice none 0 0, .slice none 0 0, .int .i64 0, .slice none 0 0, .slice none 0 0, .int .i64 0, .slice none 0 0, .slice none 0 0, .int .i64 0, .slice none 0 0, .slice none 0 0, .int .i64 0,
  .slice none 0 0, .slice none 0 0, .int .i64 0, .slice none 0 0, .slice none 0 0, .int .i64 0, .slice none 0 0, .slice none 0 0, .int .i64 0, .slice none 0 0, .slice none 0 0, .int .i64 0,
  .int .i64 x.turn, .int .i64 x.done, .int .i64 x.used]
abbrev bkP (b : Nat) (x : Bk) : HProp := pts b (.cells (bkCells x) 50 (0, 0))

theorem at_c (m k : Nat) (hm : m ≤ 1000000000000) (w : World) : Calls Tryz.prog 37 #[.int .i64 m, .int .i64 k] w (fun e w' => e = .returned (.int .u8 (atN m k : Nat)) ∧ w' = w) := by
  unfold atN
  by_cases h : k % 2 = 0
  · rw [if_pos h]
    have h2 : (k : Int) % 2 = 0 := by omega
    have h3 : 0 ≤ (m : Int) % 251 := by omega
    have h4 : (m : Int) % 251 < 251 := by omega
    go_enter Tryz.func37, Tryz.ntmps37
    go_wp2
    go_ret
    refine ⟨ret_int ?_, rfl⟩
    omega
  · rw [if_neg h]
    have h2 : (k : Int) % 2 = 1 := by omega
    have h3 : 0 ≤ (7 * (m : Int) + (m : Int) / 251) % 251 := by omega
    have h4 : (7 * (m : Int) + (m : Int) / 251) % 251 < 251 := by omega
    go_enter Tryz.func37, Tryz.ntmps37
    go_wp2
    go_ret
    refine ⟨ret_int ?_, rfl⟩
    omega

set_option maxRecDepth 100000 in
theorem tight_c (b : Nat) (x : Bk) (n : Nat) (w : World) (F : List HProp) (H : Holds w (bkP b x :: F)) (hx : x.used ≤ 16777216) (hn : n ≤ 100000000000000) :
    Calls Tryz.prog 38 #[.pointer (some ⟨b, 0, none⟩), .int .i64 n] w (fun e w' => e = .returned (.bool (decide (16777216 < x.used + n))) ∧ Holds w' (bkP b (if 16777216 < x.used + n then x else { x with used := x.used + n }) :: F) ∧ Str w w') := by
  have c71 := H.cell 71
  have z71 := H.free 71
  simp [bkCells] at c71
  by_cases h : 16777216 < x.used + n
  · rw [if_pos h, decide_eq_true h]
    have h' : (16777216 : Int) < (x.used : Int) + n := by omega
    go_enter Tryz.func38, Tryz.ntmps38
    go_wp2
    go_ret
    exact ⟨rfl, H, Str.refl w⟩
  · rw [if_neg h, decide_eq_false h]
    have h' : ¬ (16777216 : Int) < (x.used : Int) + n := by omega
    go_enter Tryz.func38, Tryz.ntmps38
    go_wp2
    go_ret
    exact ⟨rfl, H.store 71 (.int .i64 (x.used + n : Nat)), (Str.refl w).setCell _ _⟩
end Go.Proofs.YtakaolcajbhkiaaGreat
