/- What the laws of bits share: num; works. -/
import Derived.Test.YtngnfdlkkedaaaaBR
namespace Go.Proofs.Ytngnfdlkkedaaaa
set_option linter.unusedVariables false
set_option linter.unusedSimpArgs false
open Go.RowKit Go.SL Go.Fm

theorem num_c (e : Int) (w : World) : Calls Try.prog 17 #[.int .i64 e] w (fun en w' => en = .returned (.int .i64 e) ∧ w' = w) := by
  go_enter Try.func17, Try.ntmps17
  go_wp2
  go_ret
  exact ⟨rfl, rfl⟩
theorem num_q (e : Int) (w : World) (n : Nat) : Calls Try.prog 17 #[.int .i64 e] (w.drewN n) (fun en w' => en = .returned (.int .i64 e) ∧ ∃ m, w' = w.drewN m) :=
  Calls.quiet_of_same (num_c e _)

theorem new_writer {w : World} {F : List HProp} (H : Holds w F) : Holds (w.alloc (.cells #[.slice none 0 0, .int .i64 0, .int .i64 0] 28)) (wS w.heap.size ⟨[], 0⟩ :: F) :=
  wr_shut (v := .slice none 0 0) (Holds.swap ((H.alloc (.cells #[.slice none 0 0, .int .i64 0, .int .i64 0] 28)).own_nil (s := 1)))

theorem works_bits : ((((⟨[], 0⟩ : Ws).bits 5 3).var 300).zig (-1)) = ⟨[true, false, true, true, false, true, false, true, true, false, false, false, false, false, false, false, false, true, false, false, false, false, false, false, false, false, true], 0⟩ := by
  have e1 : (⟨[], 0⟩ : Ws).bits 5 3 = ⟨[true, false, true], 0⟩ := rfl
  have e2 : zigzag (-1) = 1 := rfl
  unfold Ws.zig Ws.var
  rw [e1, e2, varBits_ge 300 (by decide), varBits_lt (300 / 128) (by decide), varBits_lt 1 (by decide)]
  rfl

theorem works_r1 : (⟨unpack [181, 128, 64, 32], 0⟩ : Rs).bits 3 = (5, ⟨(unpack [181, 128, 64, 32]).drop 3, 0⟩) := rfl
theorem works_r2 : (⟨(unpack [181, 128, 64, 32]).drop 3, 0⟩ : Rs).var = (300, ⟨(unpack [181, 128, 64, 32]).drop 19, 0⟩) := by
  unfold Rs.var
  rw [if_neg (by decide), varGo_more (by decide) (by decide) (by decide), varGo_done (by decide) (by decide) (by decide)]
  rfl
theorem works_r3 : (⟨(unpack [181, 128, 64, 32]).drop 19, 0⟩ : Rs).zig = (-1, ⟨(unpack [181, 128, 64, 32]).drop 27, 0⟩) := by
  have e : (⟨(unpack [181, 128, 64, 32]).drop 19, 0⟩ : Rs).var = (1, ⟨(unpack [181, 128, 64, 32]).drop 27, 0⟩) := by
    unfold Rs.var
    rw [if_neg (by decide), varGo_done (by decide) (by decide) (by decide)]
    rfl
  unfold Rs.zig
  rw [e]
  rfl
theorem works_r4 : ((unpack [181, 128, 64, 32]).drop 27).length = 5 := rfl
theorem works_r5 : (⟨(unpack [181, 128, 64, 32]).drop 27, 0⟩ : Rs).end_ = 0 := rfl

set_option maxRecDepth 100000 in
set_option maxHeartbeats 1000000 in
theorem works_c (w : World) (F : List HProp) (H : Holds w F) : Calls Try.prog 12 #[] w (Ret w (.bool true) F) := by
  have H0 := new_writer H
  go_enter Try.func12, Try.ntmps12
  go_wp2_with fail
  refine (wBits_c w.heap.size 5 3 _ _ _ H0 (by decide) (by decide) (by decide)).mono ?_
  rintro e w1 ⟨rfl, H1, S1⟩
  go_wp2_with fail
  refine (wVar_c w.heap.size 300 _ _ _ H1 (by decide) (by decide)).mono ?_
  rintro e w2 ⟨rfl, H2, S2⟩
  go_wp2_with fail
  refine (wZig_c w.heap.size (-1) _ _ _ H2 (by decide) (by decide) (Nat.le_trans (var_len _ _ (by decide)) (by decide))).mono ?_
  rintro e w3 ⟨rfl, H3, S3⟩
  rw [show Int.toNat 5 = 5 from rfl, works_bits] at H3
  obtain ⟨M, hM⟩ : ∃ M : List Bool, M = [true, false, true, true, false, true, false, true, true, false, false, false, false, false, false, false, false, true, false, false, false, false, false, false, false, false, true] := ⟨_, rfl⟩
  rw [← hM] at H3
  have hlen : M.length = 27 := by rw [hM]; rfl
  have hpk : pack M = [181, 128, 64, 32] := by rw [hM]; rfl
  go_wp2_with fail
  refine (wDone_ok w.heap.size _ _ _ H3 rfl (by simp only []; omega)).mono ?_
  rintro e w4 ⟨v, rfl, H4, S4⟩
  rw [hpk] at H4
  replace hlen := Lib.hid hlen
  clear hpk
  go_wp2_with fail
  refine (From_c v [181, 128, 64, 32] w4 _ H4 H4.own_is (by decide) (by decide)).mono ?_
  rintro e w5 ⟨rb, rfl, H5, S5⟩
  go_wp2_with fail
  refine (rBits_c rb 3 _ w5 _ H5).mono ?_
  rw [works_r1]
  rintro e w6 ⟨rfl, H6, S6⟩
  go_wp2_with fail
  refine (rVar_c rb _ w6 _ H6).mono ?_
  rw [works_r2]
  rintro e w7 ⟨rfl, H7, S7⟩
  go_wp2_with fail
  refine (rZig_c rb _ w7 _ H7).mono ?_
  rw [works_r3]
  rintro e w8 ⟨rfl, H8, S8⟩
  have hL := rLeft_c rb _ w8 _ H8
  have hE := fun n => rEnd_c rb _ (w8.drewN n) _ (H8.drewN n)
  rw [works_r4] at hL
  simp only [works_r5] at hE
  obtain ⟨g, cap, rest, rfl, hcap, hcm, hlen1, hlen2, H9⟩ := H8.tail.own_block (by decide)
  have c0 := H9.cell 0
  simp [bv] at c0
  have hN := wLen_c w.heap.size _ w8 _ H8.tail.tail
  rw [hlen.out] at hN
  replace hL := Lib.hid hL
  replace hE := Lib.hid hE
  replace hN := Lib.hid hN
  go_wp2_with (first | (go_at_call 17; refine (num_c _ _).mono ?_; rintro e w' ⟨rfl, rfl⟩) | (go_at_call 11; refine hN.out.mono ?_; rintro e w' ⟨rfl, rfl⟩) | (go_at_call 20; refine hL.out.mono ?_; rintro e w' ⟨rfl, m, rfl⟩) | (go_at_call 21; refine (hE.out _).mono ?_; rintro e w' ⟨rfl, m2, rfl⟩))
  refine bodyPost_ret (results_tmp rfl _ _ _) rfl ⟨rfl, H8.tail.tail.tail.drewN _, ?_⟩
  exact ((((((((((Str.refl w).alloc _).trans S1).trans S2).trans S3).trans S4).trans S5).trans S6).trans S7).trans S8).drewN _
end Go.Proofs.Ytngnfdlkkedaaaa
