/- Other, Into: other bytes; bytes over those that are lent. -/
import Derived.Test.YtakaolcajbhkiaaGreatLLend
import Derived.BigQuiet
namespace Go.Proofs.YtakaolcajbhkiaaGreat
set_option linter.unusedVariables false
set_option linter.unusedSimpArgs false
open Go.RowKit Go.SL Go.Fm
theorem xor_one_u8 (x : Nat) (h : x < 256) : ∃ y, y < 256 ∧ bits .xor .u8 (x : Int) 1 = ((y : Nat) : Int) := by
  unfold bits
  simp only []
  refine ⟨(BitVec.ofInt IntKind.u8.bits (x : Int) ^^^ BitVec.ofInt IntKind.u8.bits 1).toNat, ?_, ?_⟩
  · exact (BitVec.ofInt IntKind.u8.bits (x : Int) ^^^ BitVec.ofInt IntKind.u8.bits 1).isLt
  · have hlt := (BitVec.ofInt IntKind.u8.bits (x : Int) ^^^ BitVec.ofInt IntKind.u8.bits 1).isLt
    have h2 : (BitVec.ofInt IntKind.u8.bits (x : Int) ^^^ BitVec.ofInt IntKind.u8.bits 1).toNat < 256 := hlt
    show IntKind.u8.wrap _ = _
    exact IntWalk.u8_in _ (by omega)
def OtherPost (w : World) (F : List HProp) (n : Nat) (e : Ending) (w' : World) : Prop := ∃ v' B', e = .returned v' ∧ (B'.length = n ∧ ∀ x ∈ B', x < 256) ∧ Holds w' (own 5 1 v' B'.length (bv B') :: F) ∧ Str w w'
set_option maxRecDepth 100000 in
set_option maxHeartbeats 2000000 in
theorem Other_c (v : Value) (B : List Nat) (w : World) (F : List HProp) (H : Holds w F) (hv : Sees F 1 v B.length (bv B)) (hB : ∀ x ∈ B, x < 256) (hl : B.length ≤ 1000000000000) :
    Calls Tryz.prog 9 #[v] w (OtherPost w F B.length) := by
  obtain ⟨i1, hj, hy0, hy1, hy2⟩ := info_parts info_u8
  obtain ⟨a0, c0, rfl⟩ : ∃ a c, v = .slice a B.length c := by
    rcases (hv w H).2 with ⟨h, h'⟩ | ⟨a, c, h, _⟩
    · rw [h, h']; exact ⟨_, _, rfl⟩
    · exact ⟨_, _, h⟩
  have HM : Holds w (own 5 1 (.slice none 0 0) 0 (bv []) :: F) := H.own_nil
  go_enter Tryz.func9, Tryz.ntmps9
  go_wp2
  go_loopw [3, 4] (fun s3 s4 wl => ∃ (j : Nat) (C : List Nat) (a : Option Addr) (c : Nat), j ≤ B.length ∧ C.length = j ∧ (∀ x ∈ C, x < 256) ∧ s3 = .slice a j c ∧ s4 = .int .i64 ((B.length : Int) - 1 - j) ∧ Holds wl (own 5 1 (.slice a j c) j (bv C) :: F) ∧ Str w wl) (fun _ s4 _ => (intOf s4 + 1).toNat)
  case atStart => exact ⟨0, [], none, 0, by omega, rfl, by simp, rfl, by simp, HM, Str.refl w⟩
  case round =>
    clear HM
    obtain ⟨j, C, a, c, hjl, hC, hCb, rfl, rfl, Hr, Sr⟩ := hrel
    replace hCb := Lib.hid hCb
    by_cases hjn : j < B.length
    · obtain ⟨g, off, cap, hv1, hcap, hcm, hc⟩ := (hv _ Hr.tail).at (by omega)
      simp only [Value.slice.injEq] at hv1
      obtain ⟨rfl, _, rfl⟩ := hv1
      unfold maxLen at hcm
      have hx := hB _ (List.getElem_mem (show B.length - 1 - j < B.length by omega))
      obtain ⟨x, hxx⟩ : ∃ x, x = B[B.length - 1 - j]'(by omega) := ⟨_, rfl⟩
      rw [← hxx] at hx
      have c1 := hc (B.length - 1 - j) (.int .u8 (x : Nat)) (by rw [hxx]; exact bv_at (by omega))
      clear hc
      have ix : ((B.length : Int) - 1 - j).toNat = B.length - 1 - j := by omega
      have ix0 : (0 : Int) ≤ (B.length : Int) - 1 - j := by omega
      have ix1 : (B.length : Int) - 1 - j < B.length := by omega
      replace hxx := Lib.hid hxx
      replace hx := Lib.hid hx
      replace hC := Lib.hid hC
      go_wp2_with (at_builtin; refine wpList_append_sl rfl _ _ _ rfl i1 (.int .u8 0) Tryz.underlying57 hj hy0 hy1 hy2 rfl (by decide) rfl (x := .slice (some ⟨wr.heap.size, 0, none⟩) 1 1) rfl (Hr.alloc' _) (m := 1) (news := [.int .u8 (x : Nat)]) (slice_new wr _ _ _ 1 1 rfl (by decide)) (by simp [Value.oneCell']) (by omega) (by unfold maxLen; omega) ?_; intro v8 w8 H8 S8; obtain ⟨a8, k8, rfl⟩ := own_shape H8)
      go_roundw
      case rel =>
        refine ⟨j + 1, C ++ [x], a8, k8, by omega, by have := hC.out; simp [this], ?_, rfl, by congr 1; omega, by rw [bv_append]; exact H8, (Sr.alloc _).trans S8⟩
        intro y hy
        rcases List.mem_append.1 hy with hy | hy
        · exact hCb.out y hy
        · rw [List.mem_singleton.1 hy]; exact hx.out
      case measure => (simp [intOf] <;> omega)
    · obtain rfl : j = B.length := by omega
      have ix : ¬ (0 : Int) ≤ (B.length : Int) - 1 - B.length := by omega
      have q1 := conv_str (P := Tryz.prog) Tryz.underlying57 Tryz.underlying5 Tryz.underlying9 (hv _ Hr.tail)
      have hsC : SliceIs wr 1 (.slice a B.length c) C.length (bv C) := by rw [hC]; exact Hr.own_is
      have q2 := conv_str (P := Tryz.prog) Tryz.underlying57 Tryz.underlying5 Tryz.underlying9 hsC
      obtain ⟨sB, hsB⟩ : ∃ sB, sB = bstr B := ⟨_, rfl⟩
      obtain ⟨sC, hsC2⟩ : ∃ sC, sC = bstr C := ⟨_, rfl⟩
      rw [← hsB] at q1
      rw [← hsC2] at q2
      replace hsB := Lib.hid hsB
      replace hsC2 := Lib.hid hsC2
      by_cases hz : B.length = 0
      · have hz' : ¬ (0 : Int) < B.length := by omega
        replace hz := Lib.hid hz
        replace hC := Lib.hid hC
        go_wp2_with fail
        go_ret
        exact ⟨_, C, rfl, ⟨hC.out, hCb.out⟩, by rw [hC.out]; exact Hr, Sr⟩
      · have hz' : (0 : Int) < B.length := by omega
        cases hsame : (sC.toList == sB.toList) with
        | true =>
          obtain ⟨g, cap, rest, hv9, hcap9, hcm9, hl9, hl9', H9⟩ := Hr.own_block (by omega)
          simp only [Value.slice.injEq] at hv9
          obtain ⟨rfl, _, rfl⟩ := hv9
          unfold maxLen at hcm9
          have hx := hCb.out _ (List.getElem_mem (show B.length - 1 < C.length by omega))
          obtain ⟨x, hxx⟩ : ∃ x, x = C[B.length - 1]'(by omega) := ⟨_, rfl⟩
          rw [← hxx] at hx
          have c1 := H9.cell (B.length - 1)
          rw [List.getElem?_toArray, List.getElem?_append_left (by rw [length_bv]; omega), show (bv C)[B.length - 1]? = some (.int .u8 (x : Nat)) by rw [hxx]; exact bv_at (by omega)] at c1
          have z1 := H9.free (B.length - 1)
          obtain ⟨y, hy, hxy⟩ := xor_one_u8 x hx
          have ix2 : ((B.length : Int) - 1).toNat = B.length - 1 := by omega
          have ix3 : (0 : Int) ≤ (B.length : Int) - 1 := by omega
          have e1 : ((bv C ++ rest).toArray.setIfInBounds (B.length - 1) (.int .u8 (y : Nat))).toList = bv (C.set (B.length - 1) y) ++ rest := by
            rw [Array.toList_setIfInBounds]
            show (bv C ++ rest).set _ _ = _
            rw [List.set_append_left _ _ (by rw [length_bv]; omega)]
            simp [bv, List.map_set]
          have hs := (H9.store (B.length - 1) (.int .u8 (y : Nat))).own_of_pts (n := B.length) (s := 1) (xs := bv (C.set (B.length - 1) y)) (rest := rest) hcap9 (by unfold maxLen; omega) (by simp; omega) e1 (by simp at hl9' ⊢; omega)
          replace e1 := Lib.hid e1
          replace hs := Lib.hid hs
          replace hz := Lib.hid hz
          replace hC := Lib.hid hC
          replace hxx := Lib.hid hxx
          replace hl9 := Lib.hid hl9
          replace hl9' := Lib.hid hl9'
          clear H9
          go_upto_region 7 with fail
          go_wp2_with fail
          go_ret
          refine ⟨_, C.set (B.length - 1) y, rfl, ⟨by rw [List.length_set]; exact hC.out, fun z hzz => ?_⟩, by rw [List.length_set, hC.out]; exact hs.out, Sr.setCell _ _⟩
          rcases List.mem_or_eq_of_mem_set hzz with h | h
          · exact hCb.out z h
          · rw [h]; exact hy
        | false =>
          replace hz := Lib.hid hz
          replace hC := Lib.hid hC
          go_wp2_with fail
          go_ret
          exact ⟨_, C, rfl, ⟨hC.out, hCb.out⟩, by rw [hC.out]; exact Hr, Sr⟩
set_option maxRecDepth 100000 in
set_option maxHeartbeats 2000000 in
theorem Into_c (v u : Value) (B C : List Nat) (w : World) (F : List HProp) (H : Holds w (lent v B :: F)) (hu : Sees F 1 u C.length (bv C)) (hBC : C.length = B.length) (hB : B.length ≤ 1000000000000) :
    Calls Tryz.prog 10 #[v, u] w (Ret w (.tuple #[]) (lent v C :: F)) := by
  obtain ⟨g, cap, rest, rfl, h1, h2, h3, H1⟩ := lent_open H
  obtain ⟨a1, c1, rfl⟩ : ∃ a c, u = .slice a C.length c := by
    rcases (hu w H.tail).2 with ⟨h, h'⟩ | ⟨a, c, h, _⟩
    · rw [h, h']; exact ⟨_, _, rfl⟩
    · exact ⟨_, _, h⟩
  go_enter Tryz.func10, Tryz.ntmps10
  go_wp2
  go_loopw [4] (fun s4 wl => ∃ (j : Nat), j ≤ B.length ∧ s4 = .int .i64 j ∧ Holds wl (pts g (.cells (bv (C.take j ++ B.drop j) ++ (bv (marksN 70) ++ rest)).toArray 5 (0, 0)) :: F) ∧ Str w wl) (fun s4 _ => (B.length - intOf s4).toNat)
  case atStart => exact ⟨0, by omega, rfl, by simpa using H1, Str.refl w⟩
  case round =>
    clear H1 H
    obtain ⟨j, hj, rfl, Hr, Sr⟩ := hrel
    by_cases hjn : j < B.length
    · obtain ⟨g', off, cap', hv1, hcap, hcm, hc⟩ := (hu _ Hr.tail).at (by omega)
      simp only [Value.slice.injEq] at hv1
      obtain ⟨rfl, _, rfl⟩ := hv1
      unfold maxLen at hcm
      obtain ⟨x, hxx⟩ : ∃ x, x = C[j]'(by omega) := ⟨_, rfl⟩
      have d1 := hc j (.int .u8 (x : Nat)) (by rw [hxx]; exact bv_at (by omega))
      clear hc
      have hlt : j < (bv (C.take j ++ B.drop j) ++ (bv (marksN 70) ++ rest)).toArray.size := by simp; omega
      have e0 := Hr.cell j
      rw [Array.getElem?_eq_getElem hlt] at e0
      have z0 := Hr.free j
      have hs := Hr.store j (.int .u8 (x : Nat))
      have e1 : (bv (C.take j ++ B.drop j) ++ (bv (marksN 70) ++ rest)).toArray.setIfInBounds j (.int .u8 (x : Nat)) = (bv (C.take (j + 1) ++ B.drop (j + 1)) ++ (bv (marksN 70) ++ rest)).toArray := by
        have e2 : bv (C.take j ++ B.drop j) = bv (C.take j) ++ (.int .u8 ((B[j] : Nat) : Int)) :: bv (B.drop (j + 1)) := by
          rw [List.drop_eq_getElem_cons hjn, bv_append]
          rfl
        have e3 : bv (C.take (j + 1) ++ B.drop (j + 1)) = bv (C.take j) ++ (.int .u8 (x : Nat)) :: bv (B.drop (j + 1)) := by
          rw [List.take_succ_eq_append_getElem (show j < C.length by omega), hxx, bv_append, bv_append, List.append_assoc]
          rfl
        rw [e2, e3, List.setIfInBounds_toArray, List.append_assoc, List.append_assoc, List.set_append_right _ _ (by simp; omega)]
        simp [show min j C.length = j by omega]
      rw [e1] at hs
      replace e1 := Lib.hid e1
      replace hs := Lib.hid hs
      replace hxx := Lib.hid hxx
      go_wp2_with fail
      go_roundw
      case rel => exact ⟨j + 1, by omega, by congr 1, hs.out, Sr.setCell _ _⟩
      case measure => (simp [intOf] <;> omega)
    · obtain rfl : j = B.length := by omega
      go_wp2_with fail
      go_end0
      refine ⟨rfl, ?_, Sr⟩
      rw [List.drop_length, List.append_nil, List.take_of_length_le (by omega)] at Hr
      rw [← hBC] at h1 h3 ⊢
      exact lent_shut h1 h2 h3 Hr
end Go.Proofs.YtakaolcajbhkiaaGreat
