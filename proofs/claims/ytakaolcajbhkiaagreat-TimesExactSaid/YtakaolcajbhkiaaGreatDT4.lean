/- The document's times: a zigzag is taken. -/
import Derived.Test.YtakaolcajbhkiaaGreatTmU
import Derived.Test.YtakaolcajbhkiaaGreatR8
namespace Go.Proofs.YtakaolcajbhkiaaGreat
open Go.RowKit Go.SL Go.Fm
set_option linter.unusedVariables false
set_option linter.unusedSimpArgs false
set_option maxRecDepth 100000 in
set_option maxHeartbeats 4000000 in
theorem dTake_c (b : Nat) (s : Rs) (w : World) (F : List HProp) (H : Holds w (qS b s :: F)) :
    Calls Tryz.prog 45 #[.pointer (some ⟨b, 0, none⟩)] w (Ret w (.tuple #[.int .u64 (s.tk.1.1 : Nat), .bool (s.tk.1.2 && (((s.tk.2.bad : Nat) : Int) == 0))]) (qS b s.tk.2 :: F)) := by
  go_enter Tryz.func45, Tryz.ntmps45
  go_wp2
  go_loopw [4] (fun s4 wl => ∃ (j : Nat) (r : Rs), j ≤ 4 ∧ s4 = .int .i64 j ∧ tOnes 4 s = ((tOnes (4 - j) r).1 + j, (tOnes (4 - j) r).2) ∧ Holds wl (qS b r :: F) ∧ Str w wl) (fun s4 _ => (10 - intOf s4).toNat)
  case atStart => exact ⟨0, s, by omega, rfl, rfl, H, Str.refl w⟩
  case round =>
    obtain ⟨j, r, hj, rfl, hgo, Hr, Sr⟩ := hrel
    replace hgo := Lib.hid hgo
    by_cases hj4 : j < 4
    · go_wp2_with fail
      refine (rrBits_c b 1 r _ _ Hr).mono ?_
      rintro e w1 ⟨rfl, H1, S1⟩
      replace H1 : Holds w1 (qS b r.bit.2 :: F) := H1
      by_cases hb : r.bit.1 = true
      · have hone1 : (r.bits 1).1 = 1 := by simpa [Rs.bit] using hb
        rw [hone1]
        replace hone1 := Lib.hid hone1
        have hnext : tOnes 4 s = ((tOnes (4 - (j + 1)) r.bit.2).1 + (j + 1), (tOnes (4 - (j + 1)) r.bit.2).2) := by
          rw [hgo.out, show 4 - j = (4 - (j + 1)) + 1 by omega, tOnes, if_pos hb]
          simp only [Prod.mk.injEq, and_true]
          omega
        replace hnext := Lib.hid hnext
        replace hb := Lib.hid hb
        go_wp2_with fail
        go_roundw
        case rel => exact ⟨j + 1, r.bit.2, by omega, by congr 1, hnext.out, H1, Sr.trans S1⟩
        case measure => (simp [intOf] <;> omega)
      · have hb' : r.bit.1 = false := by simpa using hb
        have hb1 : (((r.bits 1).1 : Nat) : Int) ≠ 1 := by
          intro h
          have : (r.bits 1).1 = 1 := by omega
          exact hb (by simpa [Rs.bit] using this)
        have hb2 : ((((r.bits 1).1 : Nat) : Int) == 1) = false := beq_eq_false_iff_ne.2 hb1
        replace hb1 := Lib.hid hb1
        have hone : tOnes 4 s = (j, r.bit.2) := by
          rw [hgo.out, show 4 - j = (4 - (j + 1)) + 1 by omega, tOnes, if_neg hb]
          simp
        clear hb hb'
        obtain ⟨q, hq⟩ : ∃ q, q = r.bit.2 := ⟨_, rfl⟩
        rw [← hq] at H1 hone
        have htk := tk_of hone
        replace hone := Lib.hid hone
        replace hq := Lib.hid hq
        have hcj : j = 0 ∨ j = 1 ∨ j = 2 ∨ j = 3 := by omega
        rcases hcj with hcj | hcj | hcj | hcj
        · obtain rfl : j = 0 := hcj
          have htk0 : s.tk = ((0, true), q) := htk
          replace htk := Lib.hid htk
          replace htk0 := Lib.hid htk0
          rw [show ((0 : Nat) : Int) = 0 from rfl]
          obtain ⟨vq, Hq⟩ := qS_open H1
          have cq := Hq.cell 1
          simp at cq
          go_upto_region 16 with fail
          go_quiet (fail)
          rename_i nq
          go_wp2_with fail
          go_ret2
          rw [htk0.out]
          exact ⟨rfl, H1.drewN nq, (Sr.trans S1).drewN nq⟩
        · obtain rfl : j = 1 := hcj
          have hbl : (q.bits 7).1 < 2 ^ 7 := bits_lt q 7 (by decide)
          rw [tkW1] at htk
          replace htk := Lib.hid htk
          rw [show ((1 : Nat) : Int) = 1 from rfl]
          go_wp2_with fail
          refine (rrBits_c b 7 q _ _ H1).mono ?_
          rintro e w2 ⟨rfl, H2, S2⟩
          obtain ⟨vq, Hq⟩ := qS_open H2
          have cq := Hq.cell 1
          simp at cq
          go_upto_region 16 with fail
          go_quiet (fail)
          rename_i nq
          go_wp2_with fail
          go_ret2
          rw [htk.out]
          exact ⟨rfl, H2.drewN nq, ((Sr.trans S1).trans S2).drewN nq⟩
        · obtain rfl : j = 2 := hcj
          have hbl : (q.bits 12).1 < 2 ^ 12 := bits_lt q 12 (by decide)
          rw [tkW2] at htk
          replace htk := Lib.hid htk
          rw [show ((2 : Nat) : Int) = 2 from rfl]
          go_wp2_with fail
          refine (rrBits_c b 12 q _ _ H1).mono ?_
          rintro e w2 ⟨rfl, H2, S2⟩
          obtain ⟨vq, Hq⟩ := qS_open H2
          have cq := Hq.cell 1
          simp at cq
          go_upto_region 16 with fail
          go_quiet (fail)
          rename_i nq
          go_wp2_with fail
          go_ret2
          rw [htk.out]
          exact ⟨rfl, H2.drewN nq, ((Sr.trans S1).trans S2).drewN nq⟩
        · obtain rfl : j = 3 := hcj
          have hbl : (q.bits 20).1 < 2 ^ 20 := bits_lt q 20 (by decide)
          rw [tkW3] at htk
          replace htk := Lib.hid htk
          rw [show ((3 : Nat) : Int) = 3 from rfl]
          go_wp2_with fail
          refine (rrBits_c b 20 q _ _ H1).mono ?_
          rintro e w2 ⟨rfl, H2, S2⟩
          obtain ⟨vq, Hq⟩ := qS_open H2
          have cq := Hq.cell 1
          simp at cq
          go_upto_region 16 with fail
          go_quiet (fail)
          rename_i nq
          go_wp2_with fail
          go_ret2
          rw [htk.out]
          exact ⟨rfl, H2.drewN nq, ((Sr.trans S1).trans S2).drewN nq⟩
    · obtain rfl : j = 4 := by omega
      have hone : tOnes 4 s = (4, r) := by
        rw [hgo.out]
        simp [tOnes]
      have htk := tk_of hone
      replace hone := Lib.hid hone
      rw [show ((4 : Nat) : Int) = 4 from rfl]
      go_wp2_with fail
      refine (rrBits_c b 64 r _ _ Hr).mono ?_
      rintro e w2 ⟨rfl, H2, S2⟩
      obtain ⟨vq, Hq⟩ := qS_open H2
      have cq := Hq.cell 1
      simp at cq
      by_cases hlt : (r.bits 64).1 < 1052801
      · rw [tkW4_no r hlt] at htk
        have hli : (((r.bits 64).1 : Nat) : Int) ≤ 1052800 := by omega
        replace hlt := Lib.hid hlt
        replace htk := Lib.hid htk
        go_wp2_with fail
        go_ret2
        rw [htk.out]
        exact ⟨rfl, H2, Sr.trans S2⟩
      · rw [tkW4_ok r hlt] at htk
        have hli : ¬ (((r.bits 64).1 : Nat) : Int) ≤ 1052800 := by omega
        obtain ⟨x, hx⟩ : ∃ x : Int, x = (((r.bits 64).1 : Nat) : Int) := ⟨_, rfl⟩
        rw [← hx] at hli
        rw [← hx]
        replace hx := Lib.hid hx
        replace hlt := Lib.hid hlt
        replace htk := Lib.hid htk
        go_upto_region 16 with fail
        go_quiet (fail)
        rename_i nq
        go_wp2_with fail
        go_ret2
        rw [htk.out]
        refine ⟨?_, H2.drewN nq, (Sr.trans S2).drewN nq⟩
        have := hx.out
        rw [← this]
        rfl
end Go.Proofs.YtakaolcajbhkiaaGreat
