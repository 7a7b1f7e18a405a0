/- The writer of bits: what each of its methods does to its bits. -/
import Derived.Test.YtakaolcajbhkiaaGreatProg
import Derived.Test.YtakaolcajbhkiaaGreatObjs
import Derived.Deep.CutBlock
import Derived.Deep.DeepCutAuto
import Derived.Deep.Light
import Derived.Lib.Hide
import Derived.BigRegion
namespace Go.Proofs.YtakaolcajbhkiaaGreat
set_option linter.unusedVariables false
set_option linter.unusedSimpArgs false
open Go.RowKit Go.SL Go.Fm

theorem info_u8 : (Tryz.prog.info? 5).map (fun i => (i.zero, i.size, i.bytes)) = some (some (.int .u8 0), 1, 1) := by kernel_rfl

abbrev wrS := wr 80 5

/-- A round's end: the last byte and the count. -/
theorem lay_close {w2 : World} {b g cap : Nat} {rest : List Value} {M c : List Bool} {F : List HProp} (hcap : M.length / 8 + 1 ≤ cap) (hcm : cap ≤ maxLen) (hlen : M.length / 8 + 1 + rest.length = cap)
    (H : Holds w2 (pts b (.cells #[.slice (some ⟨g, 0, none⟩) (M.length / 8 + 1) cap, .int .i64 (M.length : Nat), .int .i64 0] 80 (0,0)) :: pts g (.cells (bv (fullB M ++ [byte (tailB M)]) ++ rest).toArray 5 (0, 0)) :: F))
    (hc : 0 < c.length) (h : M.length % 8 + c.length ≤ 8) {q l : Int} (hq : q = (byte (tailB M ++ c) : Nat)) (hl : l = ((M ++ c).length : Nat)) :
    Holds (((w2.setCell ⟨g, M.length / 8, none⟩ (.int .u8 q)).setCell ⟨b, 1, none⟩ (.int .i64 l)).drew) (wrS b (M ++ c) 0 :: F) := by
  subst hq hl
  have H := H.swap.store (M.length / 8) (.int .u8 (byte (tailB M ++ c) : Nat))
  have H := (H.swap.store 1 (.int .i64 ((M ++ c).length : Nat))).drew
  have e : (pack (M ++ c)).length = M.length / 8 + 1 := by rw [length_pack, List.length_append]; omega
  refine wr_shut (v := .slice (some ⟨g, 0, none⟩) (M.length / 8 + 1) cap) ?_
  rw [e, pack_append M c hc h]
  refine Holds.swap (Holds.own_of_pts (rest := rest) H.swap hcap hcm ?_ ?_ ?_)
  · simp [length_fullB]
  · simp [bv_append, bv_one, List.set_append, length_fullB]
  · simp [length_fullB]; omega

set_option maxRecDepth 100000 in
set_option maxHeartbeats 1000000 in
theorem lay_ok (b X n : Nat) (L : List Bool) (w : World) (F : List HProp) (H : Holds w (wrS b L 0 :: F)) (_hX : X < 18446744073709551616) (hn : n ≤ 64) (hL : L.length + n ≤ 1000000000000) :
    Calls Tryz.prog 80 #[.pointer (some ⟨b, 0, none⟩), .int .u64 X, .int .i64 n] w (Ret w (.tuple #[]) (wrS b (L ++ bitsOf X n) 0 :: F)) := by
  obtain ⟨i0, hi, hz0, hz1, hz2⟩ := info_parts info_u8
  go_enter Tryz.func80, Tryz.ntmps80
  go_wp2
  go_loopw [2, 6, 7, 8] (fun s2 _ _ _ wr => ∃ (k : Nat) (M : List Bool), k ≤ n ∧ s2 = .int .i64 k ∧ M ++ bitsOf X k = L ++ bitsOf X n ∧ Holds wr (wrS b M 0 :: F) ∧ Str w wr) (fun s2 _ _ _ _ => (intOf s2).toNat)
  case atStart => exact ⟨n, L, Nat.le_refl n, rfl, rfl, H, Str.refl w⟩
  case round =>
    obtain ⟨k, M, hkn, rfl, HM, H, HS⟩ := hrel
    have hML : M.length + k = L.length + n := by have := congrArg List.length HM; simpa using this
    replace HM := Lib.hid HM
    have HML := Lib.hid hML
    have hM : M.length ≤ 1000000000000 := by omega
    clear hML
    obtain ⟨v, H⟩ := wr_open H
    have c0 := H.cell 0
    have c1 := H.cell 1
    have c2 := H.cell 2
    have z0 := H.free 0
    simp at c0 c1 c2
    by_cases hk0 : 0 < k
    · go_upto_if 23 with fail
      go_cut [24] (fun _ wc => ∃ (g cap : Nat) (rest : List Value), (M.length / 8 + 1) ≤ cap ∧ cap ≤ maxLen ∧ M.length / 8 + 1 + rest.length = cap ∧ Str w wc ∧
        Holds wc (pts b (.cells #[.slice (some ⟨g, 0, none⟩) (M.length / 8 + 1) cap, .int .i64 (M.length : Nat), .int .i64 0] 80 (0,0)) :: pts g (.cells (bv (fullB M ++ [byte (tailB M)]) ++ rest).toArray 5 (0, 0)) :: F))
      case first =>
        by_cases h8 : M.length % 8 = 0
        · have e8 : (pack M).length = M.length / 8 := by rw [length_pack]; omega
          rw [e8] at H
          have E8 := Lib.hid e8
          clear e8
          have h8i : (M.length : Int) % 8 = 0 := by omega
          go_wp2_with (at_builtin; refine wpList_append_sl rfl _ _ _ rfl i0 (.int .u8 0) Tryz.underlying57 hi hz0 hz1 hz2 rfl (by decide) rfl (x := .slice (some ⟨wr.heap.size, 0, none⟩) 1 1) rfl (H.swap.alloc' _) (m := 1) (news := [.int .u8 0]) (slice_new wr _ _ _ 1 1 rfl (by decide)) (by simp [Value.oneCell']) (by omega) (by unfold maxLen; omega) ?_; intro v1 w1 H1 S1; obtain ⟨g, cap, rest, rfl, hcap, hcm, hlen, hlen2, H1⟩ := H1.own_block (by omega); have d0 := H1.swap.cell 0; have e0 := H1.swap.free 0; simp at d0)
          go_meet
          case rel =>
            have e := pack_open M
            rw [if_pos h8] at e
            refine ⟨g, cap, rest, hcap, hcm, ?_, (HS.alloc _).trans S1 |>.setCell _ _, ?_⟩
            · rw [List.length_append, length_bv, List.length_singleton, E8.out] at hlen2; omega
            · rw [← e, bv_append]
              exact H1.swap.store 0 _
        · have h8i : ((M.length : Int) % 8 == 0) = false := by simp; omega
          go_wp2
          go_meet
          case rel =>
            obtain ⟨g, cap, rest, rfl, hcap, hcm, hlen, hlen2, H1⟩ := H.swap.own_block (by rw [length_pack]; omega)
            have e := pack_open M
            rw [if_neg h8] at e
            have e2 : (pack M).length = M.length / 8 + 1 := by rw [length_pack]; omega
            rw [e2] at H1 hcap
            refine ⟨g, cap, rest, hcap, hcm, ?_, HS, ?_⟩
            · rw [length_bv, e2] at hlen2; omega
            · rw [← e]
              exact H1.swap
      case rest =>
        obtain ⟨g, cap, rest, hcap, hcm, hlen, HS1, H1⟩ := hcut
        clear c0 c1 c2 z0 HS
        have c1 := H1.cell 1
        simp at c1
        have hq : (bv (fullB M ++ [byte (tailB M)]) ++ rest).toArray[M.length / 8]? = some (.int .u8 (byte (tailB M) : Nat)) := by
          simp only [List.getElem?_toArray]
          rw [bv_append, List.append_assoc, List.getElem?_append_right (by simp [length_fullB])]
          simp [length_fullB, bv]
        have HQ := Lib.hid hq
        clear hq
        have hm8 : (0 : Int) ≤ (M.length : Int) % 8 := by omega
        have hm9 : (M.length : Int) % 8 < 8 := by omega
        by_cases hk8 : (k : Int) < 8 - (M.length : Int) % 8
        all_goals
          go_upto_region 5 with fail
          go_quiet (fail)
          rename_i nq
          have H2 : Holds (wc.drewN nq) _ := H1
          have HS2 : Str w (wc.drewN nq) := HS1.drewN nq
          clear c1 H1 HS1
          generalize wc.drewN nq = w2 at H2 HS2 ⊢
          have c0 := H2.cell 0
          have c1 := H2.cell 1
          have z1 := H2.free 1
          have c3 := H2.swap.cell (M.length / 8)
          rw [HQ.out] at c3
          have z3 := H2.swap.free (M.length / 8)
          simp at c0 c1
          have hne := H2.ne
          have hne2 := Ne.symm hne
          have hw1 : IntKind.i64.wrap (((M.length / 8 + 1 : Nat) : Int) - 1) = ((M.length / 8 + 1 : Nat) : Int) - 1 := IntWalk.i64_in _ (by unfold maxLen at hcm; omega)
          have hb1 : (0 : Int) ≤ ((M.length / 8 + 1 : Nat) : Int) - 1 := by omega
          have hb2 : ((M.length / 8 + 1 : Nat) : Int) - 1 < ((M.length / 8 + 1 : Nat) : Int) := by omega
          have hm1 : (((M.length / 8 + 1 : Nat) : Int) - 1).toNat = M.length / 8 := by omega
          go_upto_region 6 with fail
          go_region
          go_wp2
          go_roundw
          case rel =>
            first
              | (have e := bitsOf_split X k 0
                 refine ⟨0, M ++ bitsOf X k, by omega, rfl, ?_, lay_close hcap hcm hlen H2 (by simpa using hk0) (by simp; omega) ?_ (by simp), (((HS2.setCell _ _).setCell _ _).drew)⟩
                 · rw [← HM.out]; simp [bitsOf]
                 · have := lay_byte (tailB M) X k hk0 (by rw [length_tailB]; omega)
                   rw [length_tailB] at this
                   exact this)
              | (have e := bitsOf_split X (8 - M.length % 8) (k - (8 - M.length % 8))
                 rw [show 8 - M.length % 8 + (k - (8 - M.length % 8)) = k by omega] at e
                 refine ⟨k - (8 - M.length % 8), M ++ bitsOf (X / 2 ^ (k - (8 - M.length % 8))) (8 - M.length % 8), by omega, by congr 1; omega, ?_, lay_close hcap hcm hlen H2 (by simp; omega) (by simp; omega) ?_ (by simp; omega), (((HS2.setCell _ _).setCell _ _).drew)⟩
                 · rw [← HM.out, e, List.append_assoc]
                 · have := lay_byte (tailB M) (X / 2 ^ (k - (8 - M.length % 8))) (8 - M.length % 8) (by omega) (by rw [length_tailB]; omega)
                   rw [length_tailB] at this
                   simpa using this)
          case measure => simp [intOf]; omega
    · obtain rfl : k = 0 := by omega
      go_wp2
      go_end0
      refine ⟨rfl, ?_, HS⟩
      have e := HM.out
      rw [show bitsOf X 0 = [] from rfl, List.append_nil] at e
      rw [← e]
      exact wr_shut H

end Go.Proofs.YtakaolcajbhkiaaGreat
