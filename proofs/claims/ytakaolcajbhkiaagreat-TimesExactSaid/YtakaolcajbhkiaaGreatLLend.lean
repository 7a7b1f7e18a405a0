/- Lend, Intact, Over: bytes in a list of their own, marks behind them. Intact, Over. -/
import Derived.Test.YtakaolcajbhkiaaGreatBW3
import Derived.Test.YtakaolcajbhkiaaGreatLTop
import Derived.BigQuiet
import Derived.Deep.RegionWith
import Derived.Laws.MakeOwn
namespace Go.Proofs.YtakaolcajbhkiaaGreat
set_option linter.unusedVariables false
set_option linter.unusedSimpArgs false
open Go.RowKit Go.SL Go.Fm

theorem markAt_c (i : Nat) (hi : i < 70) (w : World) : Calls Tryz.prog 22 #[.int .i64 i] w (fun e w' => e = .returned (.int .u8 ((165 - i : Nat) : Int)) ∧ w' = w) := by
  go_enter Tryz.func22, Tryz.ntmps22
  go_wp2
  go_ret
  refine ⟨ret_int ?_, rfl⟩
  omega
/-- The marks. -/
def marksN (n : Nat) : List Nat := (List.range n).map fun i => 165 - i
theorem marksN_succ (n : Nat) : marksN (n + 1) = marksN n ++ [165 - n] := by simp [marksN, List.range_succ]
theorem marksN_len (n : Nat) : (marksN n).length = n := by simp [marksN]

set_option maxRecDepth 100000 in
set_option maxHeartbeats 1000000 in
theorem Lend_c (v : Value) (B : List Nat) (w : World) (F : List HProp) (H : Holds w F) (hv : Sees F 1 v B.length (bv B)) (hB : B.length ≤ 1000000000000) :
    Calls Tryz.prog 6 #[v] w (RetV w fun v' => (fun h => ∃ rest, ownR 5 1 v' B.length (bv B) (bv (marksN 70) ++ rest) h) :: F) := by
  obtain ⟨i1, hj, hy0, hy1, hy2⟩ := info_parts info_u8
  obtain ⟨a0, c0, rfl⟩ : ∃ a c, v = .slice a B.length c := by
    rcases (hv w H).2 with ⟨h, h'⟩ | ⟨a, c, h, _⟩
    · rw [h, h']; exact ⟨_, _, rfl⟩
    · exact ⟨_, _, h⟩
  have hmk := run_make (P := Tryz.prog) w 57 5 i1 (.int .u8 0) Tryz.underlying57 hj hy0 .i64 .i64 0 ((B.length : Int) + 70) (by omega) (by omega) (by rw [hy2]; omega) (by omega)
  have hcap : ((B.length : Int) + 70).toNat = B.length + 70 := by omega
  rw [hcap, hy1, Nat.mul_one] at hmk
  simp only [Int.toNat_zero] at hmk
  have HM : Holds _ (own 5 1 (.slice (some ⟨w.heap.size, 0, none⟩) 0 (B.length + 70)) 0 [] :: F) := (H.alloc (.cells (madeCells (Value.int .u8 0).cells (B.length + 70)) 5)).own_of_pts (rest := (madeCells (Value.int .u8 0).cells (B.length + 70)).toList) (Nat.zero_le _) (by unfold maxLen; omega) rfl (by simp) (by simp [size_madeCells])
  have hvm := hv _ (H.alloc' (.cells (madeCells (Value.int .u8 0).cells (B.length + 70)) 5))
  go_enter Tryz.func6, Tryz.ntmps6
  go_wp2_with (at_builtin; refine wpList_append_sl rfl _ _ _ rfl i1 (.int .u8 0) Tryz.underlying57 hj hy0 hy1 hy2 rfl (by decide) rfl rfl HM hvm bv_cell (by omega) (by unfold maxLen; omega) ?_; intro v7 w7 H7 S7; rw [Nat.zero_add, List.nil_append] at H7; obtain ⟨a7, k7, rfl⟩ := own_shape H7)
  go_loopw [3, 4] (fun s3 s4 wl => ∃ (j : Nat) (a : Option Addr) (c : Nat), j ≤ 70 ∧ s3 = .slice a (B.length + j) c ∧ s4 = .int .i64 j ∧ Holds wl (own 5 1 (.slice a (B.length + j) c) (B.length + j) (bv (B ++ marksN j)) :: F) ∧ Str w wl) (fun _ s4 _ => (100 - intOf s4).toNat)
  case atStart => exact ⟨0, a7, k7, by omega, rfl, rfl, by rw [show B ++ marksN 0 = B by simp [marksN]]; exact H7, ((Str.refl w).alloc _).trans S7⟩
  case round =>
    clear H7 S7 HM hvm hmk
    obtain ⟨j, a, c, hj70, rfl, rfl, Hr, Sr⟩ := hrel
    by_cases hjn : j < 70
    · go_wp2_with (first | (go_at_call 22; refine (markAt_c j hjn _).mono ?_; rintro e w' ⟨rfl, hw'⟩; obtain rfl := hw'.symm) | (at_builtin; refine wpList_append_sl rfl _ _ _ rfl i1 (.int .u8 0) Tryz.underlying57 hj hy0 hy1 hy2 rfl (by decide) rfl (x := .slice (some ⟨wr.heap.size, 0, none⟩) 1 1) rfl (Hr.alloc' _) (m := 1) (news := [.int .u8 ((165 - j : Nat) : Int)]) (slice_new wr _ _ _ 1 1 rfl (by decide)) (by simp [Value.oneCell']) (by omega) (by unfold maxLen; omega) ?_; intro v8 w8 H8 S8; obtain ⟨a8, k8, rfl⟩ := own_shape H8) | fail)
      go_roundw
      case rel =>
        refine ⟨j + 1, a8, k8, by omega, rfl, by congr 1, ?_, (Sr.alloc _).trans S8⟩
        rw [marksN_succ, ← List.append_assoc, bv_append]
        exact H8
      case measure => (simp [intOf] <;> omega)
    · obtain rfl : j = 70 := by omega
      obtain ⟨g, cap, rest, hv9, hcap9, hcm9, hl9, hl9', H9⟩ := Hr.own_block (by omega)
      simp only [Value.slice.injEq] at hv9
      obtain ⟨rfl, _, rfl⟩ := hv9
      go_wp2_with fail
      go_ret
      refine ⟨_, rfl, ?_, Sr⟩
      have h70 := marksN_len 70
      rw [bv_append, List.append_assoc] at H9
      have HR := Holds.ownR_of_pts (n := B.length) (s := 1) (xs := bv B) (rest := bv (marksN 70) ++ rest) H9 (by omega) hcm9 (by simp) rfl (by rw [bv_append] at hl9'; simp only [List.length_append, length_bv, h70] at hl9' ⊢; omega)
      exact HR.mono fun _ hx => ⟨rest, hx⟩
end Go.Proofs.YtakaolcajbhkiaaGreat

namespace Go.Proofs.YtakaolcajbhkiaaGreat
set_option linter.unusedVariables false
set_option linter.unusedSimpArgs false
open Go.RowKit Go.SL Go.Fm

/-- Bytes that are lent: marks stand behind them. -/
def lent (v : Value) (B : List Nat) : HProp := fun h => ∃ rest, ownR 5 1 v B.length (bv B) (bv (marksN 70) ++ rest) h
theorem lent_open {v : Value} {B : List Nat} {w : World} {F : List HProp} (H : Holds w (lent v B :: F)) :
    ∃ g cap rest, v = .slice (some ⟨g, 0, none⟩) B.length cap ∧ B.length + 70 ≤ cap ∧ cap ≤ maxLen ∧ B.length + (70 + rest.length) = cap ∧ Holds w (pts g (.cells (bv B ++ (bv (marksN 70) ++ rest)).toArray 5 (0, 0)) :: F) := by
  obtain ⟨rest, H⟩ := Holds.elim H
  obtain ⟨hl, h⟩ := H.ownR_cases
  have h70 := marksN_len 70
  rcases h with ⟨_, _, _, h0, _⟩ | ⟨g, cap, h1, h2, h3, h4, h5⟩
  · have := congrArg List.length h0
    simp [h70] at this
  · simp only [List.length_append, length_bv, h70, Nat.mul_one] at h4
    exact ⟨g, cap, rest, h1, by omega, h3, h4, h5⟩
theorem lent_shut {B : List Nat} {w : World} {F : List HProp} {g cap : Nat} {rest : List Value} (h2 : B.length + 70 ≤ cap) (h3 : cap ≤ maxLen) (h4 : B.length + (70 + rest.length) = cap)
    (H : Holds w (pts g (.cells (bv B ++ (bv (marksN 70) ++ rest)).toArray 5 (0, 0)) :: F)) : Holds w (lent (.slice (some ⟨g, 0, none⟩) B.length cap) B :: F) :=
  (Holds.ownR_of_pts (n := B.length) (s := 1) (xs := bv B) (rest := bv (marksN 70) ++ rest) H (by omega) h3 (by simp) rfl (by simp only [List.length_append, length_bv, marksN_len 70]; omega)).mono fun _ hx => ⟨rest, hx⟩

set_option maxRecDepth 100000 in
set_option maxHeartbeats 1000000 in
theorem Intact_c (v u : Value) (B : List Nat) (w : World) (F : List HProp) (H : Holds w (lent v B :: F)) (hu : Sees F 1 u B.length (bv B)) (hB : B.length ≤ 1000000000000) :
    Calls Tryz.prog 8 #[v, u] w (Ret w (.bool true) (lent v B :: F)) := by
  obtain ⟨g, cap, rest, rfl, h1, h2, h3, H1⟩ := lent_open H
  have hsv : SliceIs w 1 (.slice (some ⟨g, 0, none⟩) B.length cap) B.length (bv B) := by
    refine ⟨by simp, .inr ⟨_, cap, rfl, by omega, h2, ?_⟩⟩
    intro j x hj
    rw [add_plain', Nat.zero_add, H1.cell j, List.getElem?_toArray, List.getElem?_append_left (List.getElem?_eq_some_iff.1 hj).1]
    exact hj
  have q1 := conv_str (P := Tryz.prog) Tryz.underlying57 Tryz.underlying5 Tryz.underlying9 hsv
  have q2 := conv_str (P := Tryz.prog) Tryz.underlying57 Tryz.underlying5 Tryz.underlying9 (hu w H.tail)
  have hmc : ∀ j, j < 70 → w.cell? ⟨g, B.length + j, none⟩ = some (.int .u8 ((165 - j : Nat) : Int)) := by
    intro j hj
    rw [H1.cell, List.getElem?_toArray, List.getElem?_append_right (by simp), length_bv, Nat.add_sub_cancel_left, List.getElem?_append_left (by simp [marksN_len]; omega), bv_at (by rw [marksN_len]; omega)]
    simp [marksN]
  go_enter Tryz.func8, Tryz.ntmps8
  unfold maxLen at h2
  go_wp2
  go_loopw [6] (fun s6 wl => ∃ (j n : Nat), j ≤ 70 ∧ s6 = .int .i64 j ∧ wl = w.drewN n) (fun s6 _ => (70 - intOf s6).toNat)
  case atStart => exact ⟨0, 0, by omega, rfl, rfl⟩
  case round =>
    clear q1 q2
    obtain ⟨j, n, hj, rfl, hwl⟩ := hrel
    by_cases hjn : j < 70
    · have hm : wr.cell? ⟨g, B.length + j, none⟩ = some (.int .u8 ((165 - j : Nat) : Int)) := by rw [hwl]; exact hmc j hjn
      replace hwl := Lib.hid hwl
      have hm1 : (B.length : Int) + j < (B.length : Int) + 70 := by omega
      have hm2 : (0 : Int) ≤ (B.length : Int) + j := by omega
      have hm3 : ((B.length : Int) + j).toNat = B.length + j := by omega
      have hi := IntWalk.i64_in ((B.length : Int) + j) (by omega)
      go_upto_region 7 with fail
      go_quiet (first | (go_at_call 22; exact Calls.quiet_of_same (markAt_c j hjn _)) | fail)
      rename_i nq
      go_wp2_with fail
      go_roundw
      case rel => exact ⟨j + 1, n + nq, by omega, by congr 1, by rw [hwl.out, World.drewN_drewN]⟩
      case measure => (simp [intOf] <;> omega)
    · go_wp2_with fail
      refine bodyPost_ret (results_tmp rfl _ _ _) rfl ⟨rfl, ?_, ?_⟩
      · exact H.drewN n
      · exact (Str.refl w).drewN n
end Go.Proofs.YtakaolcajbhkiaaGreat
