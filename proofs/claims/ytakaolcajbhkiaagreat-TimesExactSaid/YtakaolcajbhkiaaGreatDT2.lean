/- LendTimes, OverTimes: times in a list of their own, marks behind them. -/
import Derived.Test.YtakaolcajbhkiaaGreatTmU
import Derived.BigQuiet
namespace Go.Proofs.YtakaolcajbhkiaaGreat
set_option linter.unusedVariables false
set_option linter.unusedSimpArgs false
open Go.RowKit Go.SL Go.Fm
theorem length_iv (l : List Int) : (iv l).length = l.length := by simp [iv]
/-- The marks. -/
abbrev mksI (n : Nat) : List Int := List.replicate n (-777)
theorem mksI_succ (n : Nat) : mksI (n + 1) = mksI n ++ [-777] := List.replicate_succ'
/-- Times that are lent: marks stand behind them. -/
def lentT (v : Value) (l : List Int) : HProp := fun h => ∃ rest, ownR 2 1 v l.length (iv l) (iv (mksI 9) ++ rest) h
theorem lentT_open {v : Value} {B : List Int} {w : World} {F : List HProp} (H : Holds w (lentT v B :: F)) :
    ∃ g cap rest, v = .slice (some ⟨g, 0, none⟩) B.length cap ∧ B.length + 9 ≤ cap ∧ cap ≤ maxLen ∧ B.length + (9 + rest.length) = cap ∧ Holds w (pts g (.cells (iv B ++ (iv (mksI 9) ++ rest)).toArray 2 (0, 0)) :: F) := by
  obtain ⟨rest, H⟩ := Holds.elim H
  obtain ⟨hl, h⟩ := H.ownR_cases
  have h70 : (iv (mksI 9)).length = 9 := by simp [iv]
  rcases h with ⟨_, _, _, h0, _⟩ | ⟨g, cap, h1, h2, h3, h4, h5⟩
  · have := congrArg List.length h0
    simp [h70] at this
  · simp only [List.length_append, length_iv, h70, Nat.mul_one, List.length_replicate] at h4
    exact ⟨g, cap, rest, h1, by omega, h3, h4, h5⟩
theorem lentT_shut {B : List Int} {w : World} {F : List HProp} {g cap : Nat} {rest : List Value} (h2 : B.length + 9 ≤ cap) (h3 : cap ≤ maxLen) (h4 : B.length + (9 + rest.length) = cap)
    (H : Holds w (pts g (.cells (iv B ++ (iv (mksI 9) ++ rest)).toArray 2 (0, 0)) :: F)) : Holds w (lentT (.slice (some ⟨g, 0, none⟩) B.length cap) B :: F) :=
  (Holds.ownR_of_pts (n := B.length) (s := 1) (xs := iv B) (rest := iv (mksI 9) ++ rest) H (by omega) h3 (by simp [iv]) rfl (by simp only [List.length_append, length_iv, List.length_replicate]; omega)).mono fun _ hx => ⟨rest, hx⟩
theorem lentT_is {v : Value} {B : List Int} {w : World} {F : List HProp} (H : Holds w (lentT v B :: F)) : SliceIs w 1 v B.length (iv B) := by
  obtain ⟨rest, H⟩ := Holds.elim H
  exact H.ownR_is

set_option maxRecDepth 100000 in
set_option maxHeartbeats 1000000 in
theorem LendTimes_c (v : Value) (B : List Int) (w : World) (F : List HProp) (H : Holds w F) (hv : Sees F 1 v B.length (iv B)) (hB : B.length ≤ 1000000000000) :
    Calls Tryz.prog 13 #[v] w (RetV w fun v' => lentT v' B :: F) := by
  obtain ⟨i1, hj, hy0, hy1, hy2⟩ := info_parts info_i64
  obtain ⟨a0, c0, rfl⟩ : ∃ a c, v = .slice a B.length c := by
    rcases (hv w H).2 with ⟨h, h'⟩ | ⟨a, c, h, _⟩
    · rw [h, h']; exact ⟨_, _, rfl⟩
    · exact ⟨_, _, h⟩
  have hmk := run_make (P := Tryz.prog) w 54 2 i1 (.int .i64 0) Tryz.underlying54 hj hy0 .i64 .i64 0 ((B.length : Int) + 9) (by omega) (by omega) (by rw [hy2]; omega) (by omega)
  have hcap : ((B.length : Int) + 9).toNat = B.length + 9 := by omega
  rw [hcap, hy1, Nat.mul_one] at hmk
  simp only [Int.toNat_zero] at hmk
  have HM : Holds _ (own 2 1 (.slice (some ⟨w.heap.size, 0, none⟩) 0 (B.length + 9)) 0 [] :: F) := (H.alloc (.cells (madeCells (Value.int .i64 0).cells (B.length + 9)) 2)).own_of_pts (rest := (madeCells (Value.int .i64 0).cells (B.length + 9)).toList) (Nat.zero_le _) (by unfold maxLen; omega) rfl (by simp) (by simp [size_madeCells])
  have hvm := hv _ (H.alloc' (.cells (madeCells (Value.int .i64 0).cells (B.length + 9)) 2))
  go_enter Tryz.func13, Tryz.ntmps13
  go_wp2_with (at_builtin; refine wpList_append_sl rfl _ _ _ rfl i1 (.int .i64 0) Tryz.underlying54 hj hy0 hy1 hy2 rfl (by decide) rfl rfl HM hvm iv_cell (by omega) (by unfold maxLen; omega) ?_; intro v7 w7 H7 S7; rw [Nat.zero_add, List.nil_append] at H7; obtain ⟨a7, k7, rfl⟩ := own_shape H7)
  go_loopw [3, 4] (fun s3 s4 wl => ∃ (j : Nat) (a : Option Addr) (c : Nat), j ≤ 9 ∧ s3 = .slice a (B.length + j) c ∧ s4 = .int .i64 j ∧ Holds wl (own 2 1 (.slice a (B.length + j) c) (B.length + j) (iv (B ++ mksI j)) :: F) ∧ Str w wl) (fun _ s4 _ => (100 - intOf s4).toNat)
  case atStart => exact ⟨0, a7, k7, by omega, rfl, rfl, by rw [show B ++ mksI 0 = B by simp [mksI]]; exact H7, ((Str.refl w).alloc _).trans S7⟩
  case round =>
    clear H7 S7 HM hvm hmk
    obtain ⟨j, a, c, hj70, rfl, rfl, Hr, Sr⟩ := hrel
    by_cases hjn : j < 9
    · go_wp2_with (at_builtin; refine wpList_append_sl rfl _ _ _ rfl i1 (.int .i64 0) Tryz.underlying54 hj hy0 hy1 hy2 rfl (by decide) rfl (x := .slice (some ⟨wr.heap.size, 0, none⟩) 1 1) rfl (Hr.alloc' _) (m := 1) (news := [.int .i64 (-777)]) (slice_new wr _ _ _ 1 1 rfl (by decide)) (by simp [Value.oneCell']) (by omega) (by unfold maxLen; omega) ?_; intro v8 w8 H8 S8; obtain ⟨a8, k8, rfl⟩ := own_shape H8)
      go_roundw
      case rel =>
        refine ⟨j + 1, a8, k8, by omega, rfl, by congr 1, ?_, (Sr.alloc _).trans S8⟩
        rw [mksI_succ, ← List.append_assoc, iv_append]
        exact H8
      case measure => (simp [intOf] <;> omega)
    · obtain rfl : j = 9 := by omega
      obtain ⟨g, cap, rest, hv9, hcap9, hcm9, hl9, hl9', H9⟩ := Hr.own_block (by omega)
      simp only [Value.slice.injEq] at hv9
      obtain ⟨rfl, _, rfl⟩ := hv9
      go_wp2_with fail
      go_ret
      refine ⟨_, rfl, ?_, Sr⟩
      rw [iv_append, List.append_assoc] at H9
      have HR := Holds.ownR_of_pts (n := B.length) (s := 1) (xs := iv B) (rest := iv (mksI 9) ++ rest) H9 (by omega) hcm9 (by simp [iv]) rfl (by rw [iv_append] at hl9'; simp only [List.length_append, length_iv, List.length_replicate] at hl9' ⊢; omega)
      exact HR.mono fun _ hx => ⟨rest, hx⟩

set_option maxRecDepth 100000 in
set_option maxHeartbeats 1000000 in
theorem OverTimes_c (v : Value) (B : List Int) (w : World) (F : List HProp) (H : Holds w (lentT v B :: F)) (hB : B.length ≤ 1000000000000) :
    Calls Tryz.prog 16 #[v] w (Ret w (.tuple #[]) F) := by
  obtain ⟨g, cap, rest, rfl, h1, h2, h3, H1⟩ := lentT_open H
  obtain ⟨cs, hcs, hc⟩ : ∃ cs : Array Value, B.length ≤ cs.size ∧ Holds w (pts g (.cells cs 2 (0, 0)) :: F) := ⟨_, by simp [iv], H1⟩
  go_enter Tryz.func16, Tryz.ntmps16
  go_wp2
  go_loopw [2] (fun s2 wl => ∃ (j : Nat) (cs : Array Value), j ≤ B.length ∧ s2 = .int .i64 j ∧ B.length ≤ cs.size ∧ Holds wl (pts g (.cells cs 2 (0, 0)) :: F) ∧ Str w wl) (fun s2 _ => (B.length - intOf s2).toNat)
  case atStart => exact ⟨0, cs, by omega, rfl, hcs, hc, Str.refl w⟩
  case round =>
    clear hc hcs
    obtain ⟨j, cs, hj, rfl, hcs, Hr, Sr⟩ := hrel
    by_cases hjn : j < B.length
    · have c0 := Hr.cell j
      rw [Array.getElem?_eq_getElem (show j < cs.size by omega)] at c0
      have z0 := Hr.free j
      go_wp2_with fail
      go_roundw
      case rel => exact ⟨j + 1, _, by omega, by congr 1, by rw [Array.size_setIfInBounds]; exact hcs, Hr.store j _, Sr.setCell _ _⟩
      case measure => (simp [intOf] <;> omega)
    · go_wp2_with fail
      go_end0
      exact ⟨rfl, Hr.tail, Sr⟩

set_option maxRecDepth 100000 in
set_option maxHeartbeats 2000000 in
theorem BackTimes_c (v u : Value) (B : List Int) (w : World) (F : List HProp) (H : Holds w (lentT v B :: F)) (hu : Sees F 1 u B.length (iv B)) (hB : B.length ≤ 1000000000000) :
    Calls Tryz.prog 15 #[v, u] w (Ret w (.bool true) (lentT v B :: F)) := by
  obtain ⟨g, cap, rest, rfl, h1, h2, h3, H1⟩ := lentT_open H
  obtain ⟨a1, k1, rfl⟩ := slice_shape' (hu w H.tail)
  have hsv : ∀ j, j < B.length → w.cell? ⟨g, j, none⟩ = some (.int .i64 (B.getD j 0)) := by
    intro j hj
    rw [H1.cell j, List.getElem?_toArray, List.getElem?_append_left (by rw [length_iv]; exact hj), iv_at hj]
  have hmc : ∀ j, j < 9 → w.cell? ⟨g, B.length + j, none⟩ = some (.int .i64 (-777)) := by
    intro j hj
    rw [H1.cell, List.getElem?_toArray, List.getElem?_append_right (by simp [iv]), length_iv, Nat.add_sub_cancel_left, List.getElem?_append_left (by simp [iv]; omega)]
    rw [show iv (mksI 9) = List.replicate 9 (Value.int .i64 (-777)) from rfl, List.getElem?_replicate, if_pos hj]
  go_enter Tryz.func15, Tryz.ntmps15
  unfold maxLen at h2
  go_wp2
  go_loopw [5] (fun s3 wl => ∃ (j n : Nat), j ≤ B.length ∧ s3 = .int .i64 j ∧ wl = w.drewN n) (fun s3 _ => (B.length + 1 - intOf s3).toNat)
  case atStart => exact ⟨0, 0, by omega, rfl, rfl⟩
  case round =>
    obtain ⟨j, n, hj, rfl, hwl⟩ := hrel
    by_cases hjn : j < B.length
    · obtain ⟨g', off', cap', hv1', hcap', hcm', hc'⟩ := (hu w H.tail).at (by omega)
      simp only [Value.slice.injEq] at hv1'
      obtain ⟨rfl, _, rfl⟩ := hv1'
      unfold maxLen at hcm'
      obtain ⟨t, ht⟩ : ∃ t, t = B.getD j 0 := ⟨_, rfl⟩
      have hm : wr.cell? ⟨g, j, none⟩ = some (.int .i64 t) := by rw [hwl, ht]; exact hsv j hjn
      have hm' : wr.cell? ⟨g', off' + j, none⟩ = some (.int .i64 t) := by rw [hwl, ht]; exact hc' j _ (iv_at hjn)
      replace hwl := Lib.hid hwl
      replace ht := Lib.hid ht
      replace hsv := Lib.hid hsv
      replace hmc := Lib.hid hmc
      clear hc'
      have hd : (t != t) = false := by simp
      go_upto_region 6 with fail
      go_quiet (fail)
      rename_i nq
      go_wp2_with fail
      go_roundw
      case rel => exact ⟨j + 1, n + nq, by omega, by congr 1, by rw [hwl.out, World.drewN_drewN]⟩
      case measure => (simp [intOf] <;> omega)
    · obtain rfl : j = B.length := by omega
      replace hsv := Lib.hid hsv
      go_wp2_with fail
      go_loopw [7] (fun s5 wl => ∃ (j m : Nat), j ≤ 9 ∧ s5 = .int .i64 ((B.length : Int) + j) ∧ wl = w.drewN m) (fun s5 _ => (B.length + 10 - intOf s5).toNat)
      case atStart => exact ⟨0, n, by omega, by simp, rfl⟩
      case round =>
        obtain ⟨j, m, hj, rfl, hwl2⟩ := hrel
        by_cases hjn : j < 9
        · have hm : wr.cell? ⟨g, B.length + j, none⟩ = some (.int .i64 (-777)) := by rw [hwl2]; exact hmc j hjn
          replace hwl2 := Lib.hid hwl2
          have hm1 : (B.length : Int) + j < (B.length : Int) + 9 := by omega
          have hm2 : (0 : Int) ≤ (B.length : Int) + j := by omega
          have hm3 : ((B.length : Int) + j).toNat = B.length + j := by omega
          go_wp2_with fail
          go_roundw
          case rel => exact ⟨j + 1, m, by omega, by congr 1, hwl2.out⟩
          case measure => (simp [intOf] <;> omega)
        · go_wp2_with fail
          refine bodyPost_ret (results_tmp rfl _ _ _) rfl ⟨rfl, ?_, ?_⟩
          · exact H.drewN m
          · exact (Str.refl w).drewN m
end Go.Proofs.YtakaolcajbhkiaaGreat
