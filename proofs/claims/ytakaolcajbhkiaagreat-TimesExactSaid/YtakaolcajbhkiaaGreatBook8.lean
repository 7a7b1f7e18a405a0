/- The laws' Book: all still holds; Look. -/
import Derived.Test.YtakaolcajbhkiaaGreatBook7
import Derived.BigQuiet
namespace Go.Proofs.YtakaolcajbhkiaaGreat
set_option linter.unusedVariables false
set_option linter.unusedSimpArgs false
open Go.RowKit Go.SL Go.Fm

set_option maxRecDepth 100000 in
theorem bkHeld_c (b T : Nat) (w : World) (F : List HProp) (H0 : Holds w (bookS b T :: F)) : Calls Tryz.prog 52 #[.pointer (some ⟨b, 0, none⟩)] w (Ret w (.bool true) (bookS b T :: F)) := by
  obtain ⟨x, y, k1, k2, ok, H⟩ := bookS_open H0
  have c30 := H.cell 30
  have c33 := H.cell 33
  have c36 := H.cell 36
  have c39 := H.cell 39
  simp [bkCells] at c30 c33 c36 c39
  go_enter Tryz.func52, Tryz.ntmps52
  go_wp2
  refine wp_loop_rounds 1 ?_
  rw [rounds_succ]
  go_wp2
  refine wp_loop_rounds 1 ?_
  rw [rounds_succ]
  go_wp2
  refine wp_loop_rounds 1 ?_
  rw [rounds_succ]
  go_wp2
  refine wp_loop_rounds 1 ?_
  rw [rounds_succ]
  go_wp2
  go_ret
  exact ⟨rfl, bookS_shut ok H, Str.refl w⟩
set_option maxRecDepth 100000 in
theorem bkSent_c (b T : Nat) (w : World) (F : List HProp) (H0 : Holds w (bookS b T :: F)) : Calls Tryz.prog 53 #[.pointer (some ⟨b, 0, none⟩)] w (Ret w (.bool true) (bookS b T :: F)) := by
  obtain ⟨x, y, k1, k2, ok, H⟩ := bookS_open H0
  have c42 := H.cell 42
  have c45 := H.cell 45
  have c48 := H.cell 48
  have c51 := H.cell 51
  simp [bkCells] at c42 c45 c48 c51
  go_enter Tryz.func53, Tryz.ntmps53
  go_wp2
  refine wp_loop_rounds 1 ?_
  rw [rounds_succ]
  go_wp2
  refine wp_loop_rounds 1 ?_
  rw [rounds_succ]
  go_wp2
  refine wp_loop_rounds 1 ?_
  rw [rounds_succ]
  go_wp2
  refine wp_loop_rounds 1 ?_
  rw [rounds_succ]
  go_wp2
  go_ret
  exact ⟨rfl, bookS_shut ok H, Str.refl w⟩
set_option maxRecDepth 100000 in
theorem bkGiven_c (b T : Nat) (w : World) (F : List HProp) (H0 : Holds w (bookS b T :: F)) : Calls Tryz.prog 54 #[.pointer (some ⟨b, 0, none⟩)] w (Ret w (.bool true) (bookS b T :: F)) := by
  obtain ⟨x, y, k1, k2, ok, H⟩ := bookS_open H0
  have c54 := H.cell 54
  have c57 := H.cell 57
  have c60 := H.cell 60
  have c63 := H.cell 63
  simp [bkCells] at c54 c57 c60 c63
  go_enter Tryz.func54, Tryz.ntmps54
  go_wp2
  refine wp_loop_rounds 1 ?_
  rw [rounds_succ]
  go_wp2
  refine wp_loop_rounds 1 ?_
  rw [rounds_succ]
  go_wp2
  refine wp_loop_rounds 1 ?_
  rw [rounds_succ]
  go_wp2
  refine wp_loop_rounds 1 ?_
  rw [rounds_succ]
  go_wp2
  go_ret
  exact ⟨rfl, bookS_shut ok H, Str.refl w⟩
set_option maxRecDepth 100000 in
theorem bkSeen_c (b T : Nat) (w : World) (F : List HProp) (H0 : Holds w (bookS b T :: F)) : Calls Tryz.prog 55 #[.pointer (some ⟨b, 0, none⟩)] w (Ret w (.bool true) (bookS b T :: F)) := by
  obtain ⟨x, y, k1, k2, ok, H⟩ := bookS_open H0
  have c66 := H.cell 66
  simp [bkCells] at c66
  go_enter Tryz.func55, Tryz.ntmps55
  go_wp2
  refine wp_loop_rounds 1 ?_
  rw [rounds_succ]
  go_wp2
  go_ret
  exact ⟨rfl, bookS_shut ok H, Str.refl w⟩
set_option maxRecDepth 100000 in
theorem bkHolds_c (b T : Nat) (w : World) (F : List HProp) (HB : Holds w (bookS b T :: F)) (hT : T ≤ 900000000000) : Calls Tryz.prog 27 #[.pointer (some ⟨b, 0, none⟩)] w (Ret w (.bool true) (bookS b T :: F)) := by
  have SA := Str.refl w
  go_enter Tryz.func27, Tryz.ntmps27
  go_wp2_with (first | (go_at_call 49; refine (bkPlain_c b T _ _ HB hT).mono ?_; rintro e w' ⟨rfl, HB, SB⟩; replace SA := SA.trans SB) | (go_at_call 50; refine (bkKept_c b T _ _ HB hT).mono ?_; rintro e w' ⟨rfl, HB, SB⟩; replace SA := SA.trans SB) | (go_at_call 51; refine (bkTold_c b T _ _ HB hT).mono ?_; rintro e w' ⟨rfl, HB, SB⟩; replace SA := SA.trans SB) | (go_at_call 52; refine (bkHeld_c b T _ _ HB ).mono ?_; rintro e w' ⟨rfl, HB, SB⟩; replace SA := SA.trans SB) | (go_at_call 53; refine (bkSent_c b T _ _ HB ).mono ?_; rintro e w' ⟨rfl, HB, SB⟩; replace SA := SA.trans SB) | (go_at_call 54; refine (bkGiven_c b T _ _ HB ).mono ?_; rintro e w' ⟨rfl, HB, SB⟩; replace SA := SA.trans SB) | (go_at_call 55; refine (bkSeen_c b T _ _ HB ).mono ?_; rintro e w' ⟨rfl, HB, SB⟩; replace SA := SA.trans SB))
  go_ret
  exact ⟨rfl, HB, SA⟩
set_option maxRecDepth 100000 in
theorem bkLook_c (b T : Nat) (w : World) (F : List HProp) (HB : Holds w (bookS b T :: F)) (hT : T ≤ 900000000000) : Calls Tryz.prog 11 #[.pointer (some ⟨b, 0, none⟩)] w (Ret w (.bool true) (bookS b T :: F)) := by
  have SA := Str.refl w
  go_enter Tryz.func11, Tryz.ntmps11
  go_upto_region 3 with (go_at_call 27; refine (bkHolds_c b T _ _ HB hT).mono ?_; rintro e w1 ⟨rfl, HB1, SB⟩; replace SA := SA.trans SB)
  obtain ⟨x, y, k1, k2, ok, H⟩ := bookS_open HB1
  have c69 := H.cell 69
  have c70 := H.cell 70
  simp [bkCells] at c69 c70
  go_quiet (fail)
  rename_i nq
  have HB2 : Holds (w1.drewN nq) _ := HB1.drewN nq
  have SA2 := SA.drewN nq
  generalize w1.drewN nq = w2 at HB2 SA2 ⊢
  clear c69 c70 H HB1 SA HB
  by_cases hd : x.done = x.turn
  · have hd' : ((x.done : Int) == (x.turn : Int)) = true := by simp [hd]
    replace hd := Lib.hid hd
    go_wp2_with fail
    go_ret
    exact ⟨rfl, HB2, SA2⟩
  · have hd' : ((x.done : Int) == (x.turn : Int)) = false := beq_eq_false_iff_ne.2 (by omega)
    replace hd := Lib.hid hd
    go_wp2_with (first | (go_at_call 27; refine (bkHolds_c b T _ _ HB2 hT).mono ?_; rintro e w1 ⟨rfl, HB2, SB⟩; replace SA2 := SA2.trans SB) | (go_at_call 28; refine (bkGrow_c b T _ _ HB2 hT).mono ?_; rintro e w1 ⟨rfl, HB2, SB⟩; replace SA2 := SA2.trans SB))
    go_ret
    exact ⟨rfl, HB2, SA2⟩
end Go.Proofs.YtakaolcajbhkiaaGreat
