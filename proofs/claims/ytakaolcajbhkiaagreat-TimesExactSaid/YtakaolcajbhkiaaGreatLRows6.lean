/- The argument of the laws of times. -/
import Derived.Test.YtakaolcajbhkiaaGreatLRows
namespace Go.Proofs.YtakaolcajbhkiaaGreat
open Go.RowKit Go.SL Go.Fm Go.ChangeShapes Go.WideShapes Go.ChangeAt
set_option linter.unusedVariables false
set_option linter.unusedSimpArgs false

theorem rowsArg {H : Type} {enc : TypeId × Value → H} {W : World} {spare : Nat → Bool} {held : Bool} {cs : Array Value} {fuel : Nat} {x : DataW H × List MemPlace} (hs : cs.size = 3)
    (h : DataW.trod enc Tryz.prog W 0 spare held fuel 26 cs.toList = some x) (hw : ∀ k ∈ x.1.weights Tryz.prog 26, k ≤ reachBytes) :
    ∃ (v0 v1 v2 : Value) (L : List (List Int)) (B : List (List Nat)) (N : List Int), cs = #[v0, v1, v2] ∧ RowsIs W iv v0 L ∧ (∀ l ∈ L, I64 l ∧ l.length ≤ 20000000000000) ∧
      RowsIs W bv v1 B ∧ (∀ b ∈ B, (∀ x ∈ b, x < 256) ∧ b.length ≤ 200000000000000) ∧ I64 N ∧ SliceIs W 1 v2 N.length (iv N) ∧ N.length ≤ maxLen := by
  obtain ⟨v0, v1, v2, n, y0, y1, y2, rfl, h0, h1, h2, w0, w1, w2⟩ := rows3_in Tryz.underlying26 hs rfl rfl rfl (by kernel_rfl) (by kernel_rfl) (by kernel_rfl) h
  have b8 : Tryz.prog.bytesOf 2 = 8 := by kernel_rfl
  have b1 : Tryz.prog.bytesOf 5 = 1 := by kernel_rfl
  have hr : reachBytes = 140737488351232 := rfl
  obtain ⟨L, _, hL, hLs⟩ := rows_in (e := 54) iv (fun l : List Int => I64 l ∧ l.length ≤ 20000000000000) Tryz.underlying22 (by kernel_rfl) (by
    intro u n y hy hk
    obtain ⟨l, hl, _, hs⟩ := times_in Tryz.underlying54 Tryz.underlying2 (by kernel_rfl) hy
    have := len_sized Tryz.underlying54 hy hk hs
    rw [b8] at this
    exact ⟨l, ⟨hl, by omega⟩, by rw [length_iv]; exact hs⟩) h0 (fun k hk => hw k (w0 k hk))
  obtain ⟨B, _, hB, hBs⟩ := rows_in (e := 57) bv (fun b : List Nat => (∀ x ∈ b, x < 256) ∧ b.length ≤ 200000000000000) Tryz.underlying23 (by kernel_rfl) (by
    intro u n y hy hk
    obtain ⟨b, hb, _, hs⟩ := bytes_in Tryz.underlying57 Tryz.underlying5 (by kernel_rfl) hy
    have := len_sized Tryz.underlying57 hy hk hs
    rw [b1] at this
    exact ⟨b, ⟨hb, by omega⟩, by rw [length_bv]; exact hs⟩) h1 (fun k hk => hw k (w1 k hk))
  obtain ⟨N, hN, hNl, hNs⟩ := times_in Tryz.underlying24 Tryz.underlying3 (by kernel_rfl) h2
  exact ⟨v0, v1, v2, L, B, N, rfl, hLs, hL, hBs, hB, hN, hNs, hNl⟩
end Go.Proofs.YtakaolcajbhkiaaGreat
