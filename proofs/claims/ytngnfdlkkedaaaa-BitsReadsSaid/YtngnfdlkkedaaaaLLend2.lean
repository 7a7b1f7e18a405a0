/- Intact, Over. -/
import Derived.Test.YtngnfdlkkedaaaaLLend
namespace Go.Proofs.Ytngnfdlkkedaaaa
set_option linter.unusedVariables false
set_option linter.unusedSimpArgs false
open Go.RowKit Go.SL Go.Fm

/-- Bytes that are lent: marks stand behind them. -/
def lent (v : Value) (B : List Nat) : HProp := fun h => ∃ rest, ownR 5 1 v B.length (bv B) (bv (marksN 70) ++ rest) h
theorem lent_open {v : Value} {B : List Nat} {w : World} {F : List HProp} (H : Holds w (lent v B :: F)) :
    ∃ g cap rest, v = .slice (some ⟨g, 0, none⟩) B.length cap ∧ B.length + 70 ≤ cap ∧ cap ≤ maxLen ∧ B.length + (70 + rest.length) = cap ∧ Holds w (pts g (.cells (bv B ++ (bv (marksN 70) ++ rest)).toArray 5 (0, 0)) :: F) := by
  obtain ⟨rest, H⟩ := Holds.elim H
  obtain ⟨hl, h⟩ := H.ownR_cases
  have h70 := marksN_len 70
  rcases h with ⟨_, _, _, h0, _⟩ | ⟨g, cap, h1, h2, h3, h4, h5⟩
  · have := congrArg List.length h0
    simp [h70] at this
  · simp only [List.length_append, length_bv, h70, Nat.mul_one] at h4
    exact ⟨g, cap, rest, h1, by omega, h3, h4, h5⟩
theorem lent_shut {B : List Nat} {w : World} {F : List HProp} {g cap : Nat} {rest : List Value} (h2 : B.length + 70 ≤ cap) (h3 : cap ≤ maxLen) (h4 : B.length + (70 + rest.length) = cap)
    (H : Holds w (pts g (.cells (bv B ++ (bv (marksN 70) ++ rest)).toArray 5 (0, 0)) :: F)) : Holds w (lent (.slice (some ⟨g, 0, none⟩) B.length cap) B :: F) :=
  (Holds.ownR_of_pts (n := B.length) (s := 1) (xs := bv B) (rest := bv (marksN 70) ++ rest) H (by omega) h3 (by simp) rfl (by simp only [List.length_append, length_bv, marksN_len 70]; omega)).mono fun _ hx => ⟨rest, hx⟩

set_option maxRecDepth 100000 in
set_option maxHeartbeats 1000000 in
theorem Over_c (v : Value) (B : List Nat) (w : World) (F : List HProp) (H : Holds w (lent v B :: F)) (hB : B.length ≤ 1000000000000) :
    Calls Try.prog 29 #[v] w (Ret w (.tuple #[]) F) := by
  obtain ⟨g, cap, rest, rfl, h1, h2, h3, H1⟩ := lent_open H
  obtain ⟨cs, hcs, hc⟩ : ∃ cs : Array Value, B.length ≤ cs.size ∧ Holds w (pts g (.cells cs 5 (0, 0)) :: F) := ⟨_, by simp, H1⟩
  go_enter Try.func29, Try.ntmps29
  go_wp2
  go_loopw [2] (fun s2 wl => ∃ (j : Nat) (cs : Array Value), j ≤ B.length ∧ s2 = .int .i64 j ∧ B.length ≤ cs.size ∧ Holds wl (pts g (.cells cs 5 (0, 0)) :: F) ∧ Str w wl) (fun s2 _ => (B.length - intOf s2).toNat)
  case atStart => exact ⟨0, cs, by omega, rfl, hcs, hc, Str.refl w⟩
  case round =>
    clear hc hcs
    obtain ⟨j, cs, hj, rfl, hcs, Hr, Sr⟩ := hrel
    by_cases hjn : j < B.length
    · have c0 := Hr.cell j
      rw [Array.getElem?_eq_getElem (show j < cs.size by omega)] at c0
      have z0 := Hr.free j
      go_wp2_with fail
      go_roundw
      case rel => exact ⟨j + 1, _, by omega, by congr 1, by rw [Array.size_setIfInBounds]; exact hcs, Hr.store j _, Sr.setCell _ _⟩
      case measure => (simp [intOf] <;> omega)
    · go_wp2_with fail
      go_end0
      exact ⟨rfl, Hr.tail, Sr⟩

set_option maxRecDepth 100000 in
set_option maxHeartbeats 1000000 in
theorem Intact_c (v u : Value) (B : List Nat) (w : World) (F : List HProp) (H : Holds w (lent v B :: F)) (hu : Sees F 1 u B.length (bv B)) (hB : B.length ≤ 1000000000000) :
    Calls Try.prog 28 #[v, u] w (Ret w (.bool true) (lent v B :: F)) := by
  obtain ⟨g, cap, rest, rfl, h1, h2, h3, H1⟩ := lent_open H
  have hsv : SliceIs w 1 (.slice (some ⟨g, 0, none⟩) B.length cap) B.length (bv B) := by
    refine ⟨by simp, .inr ⟨_, cap, rfl, by omega, h2, ?_⟩⟩
    intro j x hj
    rw [add_plain', Nat.zero_add, H1.cell j, List.getElem?_toArray, List.getElem?_append_left (List.getElem?_eq_some_iff.1 hj).1]
    exact hj
  have q1 := conv_str (P := Try.prog) Try.underlying25 Try.underlying5 Try.underlying9 hsv
  have q2 := conv_str (P := Try.prog) Try.underlying25 Try.underlying5 Try.underlying9 (hu w H.tail)
  have hmc : ∀ j, j < 70 → w.cell? ⟨g, B.length + j, none⟩ = some (.int .u8 ((165 - j : Nat) : Int)) := by
    intro j hj
    rw [H1.cell, List.getElem?_toArray, List.getElem?_append_right (by simp), length_bv, Nat.add_sub_cancel_left, List.getElem?_append_left (by simp [marksN_len]; omega), bv_at (by rw [marksN_len]; omega)]
    simp [marksN]
  go_enter Try.func28, Try.ntmps28
  unfold maxLen at h2
  go_wp2
  go_loopw [6] (fun s6 wl => ∃ (j n : Nat), j ≤ 70 ∧ s6 = .int .i64 j ∧ wl = w.drewN n) (fun s6 _ => (70 - intOf s6).toNat)
  case atStart => exact ⟨0, 0, by omega, rfl, rfl⟩
  case round =>
    clear q1 q2
    obtain ⟨j, n, hj, rfl, hwl⟩ := hrel
    by_cases hjn : j < 70
    · have hm : wr.cell? ⟨g, B.length + j, none⟩ = some (.int .u8 ((165 - j : Nat) : Int)) := by rw [hwl]; exact hmc j hjn
      replace hwl := Lib.hid hwl
      have hm1 : (B.length : Int) + j < (B.length : Int) + 70 := by omega
      have hm2 : (0 : Int) ≤ (B.length : Int) + j := by omega
      have hm3 : ((B.length : Int) + j).toNat = B.length + j := by omega
      have hi := IntWalk.i64_in ((B.length : Int) + j) (by omega)
      go_upto_region 7 with fail
      go_quiet (first | (go_at_call 57; exact Calls.quiet_of_same (markAt_c j hjn _)) | fail)
      rename_i nq
      go_wp2_with fail
      go_roundw
      case rel => exact ⟨j + 1, n + nq, by omega, by congr 1, by rw [hwl.out, World.drewN_drewN]⟩
      case measure => (simp [intOf] <;> omega)
    · go_wp2_with fail
      refine bodyPost_ret (results_tmp rfl _ _ _) rfl ⟨rfl, ?_, ?_⟩
      · exact H.drewN n
      · exact (Str.refl w).drewN n
end Go.Proofs.Ytngnfdlkkedaaaa
