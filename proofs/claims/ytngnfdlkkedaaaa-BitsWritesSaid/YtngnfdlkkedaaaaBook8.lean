/- The laws' Book: all still holds; Look. -/
import Derived.Test.YtngnfdlkkedaaaaBook7
import Derived.BigQuiet
namespace Go.Proofs.Ytngnfdlkkedaaaa
set_option linter.unusedVariables false
set_option linter.unusedSimpArgs false
open Go.RowKit Go.SL Go.Fm

set_option maxRecDepth 100000 in
theorem bkHeld_c (b T : Nat) (w : World) (F : List HProp) (H0 : Holds w (bookS b T :: F)) : Calls Try.prog 73 #[.pointer (some ⟨b, 0, none⟩)] w (Ret w (.bool true) (bookS b T :: F)) := by
  obtain ⟨x, y, k1, k2, ok, H⟩ := bookS_open H0
  have c30 := H.cell 30
  have c33 := H.cell 33
  have c36 := H.cell 36
  have c39 := H.cell 39
  simp [bkCells] at c30 c33 c36 c39
  go_enter Try.func73, Try.ntmps73
  go_wp2
  refine wp_loop_rounds 1 ?_
  rw [rounds_succ]
  go_wp2
  refine wp_loop_rounds 1 ?_
  rw [rounds_succ]
  go_wp2
  refine wp_loop_rounds 1 ?_
  rw [rounds_succ]
  go_wp2
  refine wp_loop_rounds 1 ?_
  rw [rounds_succ]
  go_wp2
  go_ret
  exact ⟨rfl, bookS_shut ok H, Str.refl w⟩
set_option maxRecDepth 100000 in
theorem bkSent_c (b T : Nat) (w : World) (F : List HProp) (H0 : Holds w (bookS b T :: F)) : Calls Try.prog 74 #[.pointer (some ⟨b, 0, none⟩)] w (Ret w (.bool true) (bookS b T :: F)) := by
  obtain ⟨x, y, k1, k2, ok, H⟩ := bookS_open H0
  have c42 := H.cell 42
  have c45 := H.cell 45
  have c48 := H.cell 48
  have c51 := H.cell 51
  simp [bkCells] at c42 c45 c48 c51
  go_enter Try.func74, Try.ntmps74
  go_wp2
  refine wp_loop_rounds 1 ?_
  rw [rounds_succ]
  go_wp2
  refine wp_loop_rounds 1 ?_
  rw [rounds_succ]
  go_wp2
  refine wp_loop_rounds 1 ?_
  rw [rounds_succ]
  go_wp2
  refine wp_loop_rounds 1 ?_
  rw [rounds_succ]
  go_wp2
  go_ret
  exact ⟨rfl, bookS_shut ok H, Str.refl w⟩
set_option maxRecDepth 100000 in
theorem bkGiven_c (b T : Nat) (w : World) (F : List HProp) (H0 : Holds w (bookS b T :: F)) : Calls Try.prog 75 #[.pointer (some ⟨b, 0, none⟩)] w (Ret w (.bool true) (bookS b T :: F)) := by
  obtain ⟨x, y, k1, k2, ok, H⟩ := bookS_open H0
  have c54 := H.cell 54
  have c57 := H.cell 57
  have c60 := H.cell 60
  have c63 := H.cell 63
  simp [bkCells] at c54 c57 c60 c63
  go_enter Try.func75, Try.ntmps75
  go_wp2
  refine wp_loop_rounds 1 ?_
  rw [rounds_succ]
  go_wp2
  refine wp_loop_rounds 1 ?_
  rw [rounds_succ]
  go_wp2
  refine wp_loop_rounds 1 ?_
  rw [rounds_succ]
  go_wp2
  refine wp_loop_rounds 1 ?_
  rw [rounds_succ]
  go_wp2
  go_ret
  exact ⟨rfl, bookS_shut ok H, Str.refl w⟩
set_option maxRecDepth 100000 in
theorem bkSeen_c (b T : Nat) (w : World) (F : List HProp) (H0 : Holds w (bookS b T :: F)) : Calls Try.prog 76 #[.pointer (some ⟨b, 0, none⟩)] w (Ret w (.bool true) (bookS b T :: F)) := by
  obtain ⟨x, y, k1, k2, ok, H⟩ := bookS_open H0
  have c66 := H.cell 66
  simp [bkCells] at c66
  go_enter Try.func76, Try.ntmps76
  go_wp2
  refine wp_loop_rounds 1 ?_
  rw [rounds_succ]
  go_wp2
  go_ret
  exact ⟨rfl, bookS_shut ok H, Str.refl w⟩
set_option maxRecDepth 100000 in
theorem bkHolds_c (b T : Nat) (w : World) (F : List HProp) (HB : Holds w (bookS b T :: F)) (hT : T ≤ 900000000000) : Calls Try.prog 55 #[.pointer (some ⟨b, 0, none⟩)] w (Ret w (.bool true) (bookS b T :: F)) := by
  have SA := Str.refl w
  go_enter Try.func55, Try.ntmps55
  go_wp2_with (first | (go_at_call 70; refine (bkPlain_c b T _ _ HB hT).mono ?_; rintro e w' ⟨rfl, HB, SB⟩; replace SA := SA.trans SB) | (go_at_call 71; refine (bkKept_c b T _ _ HB hT).mono ?_; rintro e w' ⟨rfl, HB, SB⟩; replace SA := SA.trans SB) | (go_at_call 72; refine (bkTold_c b T _ _ HB hT).mono ?_; rintro e w' ⟨rfl, HB, SB⟩; replace SA := SA.trans SB) | (go_at_call 73; refine (bkHeld_c b T _ _ HB ).mono ?_; rintro e w' ⟨rfl, HB, SB⟩; replace SA := SA.trans SB) | (go_at_call 74; refine (bkSent_c b T _ _ HB ).mono ?_; rintro e w' ⟨rfl, HB, SB⟩; replace SA := SA.trans SB) | (go_at_call 75; refine (bkGiven_c b T _ _ HB ).mono ?_; rintro e w' ⟨rfl, HB, SB⟩; replace SA := SA.trans SB) | (go_at_call 76; refine (bkSeen_c b T _ _ HB ).mono ?_; rintro e w' ⟨rfl, HB, SB⟩; replace SA := SA.trans SB))
  go_ret
  exact ⟨rfl, HB, SA⟩
set_option maxRecDepth 100000 in
theorem bkLook_c (b T : Nat) (w : World) (F : List HProp) (HB : Holds w (bookS b T :: F)) (hT : T ≤ 900000000000) : Calls Try.prog 25 #[.pointer (some ⟨b, 0, none⟩)] w (Ret w (.bool true) (bookS b T :: F)) := by
  have SA := Str.refl w
  go_enter Try.func25, Try.ntmps25
  go_upto_region 3 with (go_at_call 55; refine (bkHolds_c b T _ _ HB hT).mono ?_; rintro e w1 ⟨rfl, HB1, SB⟩; replace SA := SA.trans SB)
  obtain ⟨x, y, k1, k2, ok, H⟩ := bookS_open HB1
  have c69 := H.cell 69
  have c70 := H.cell 70
  simp [bkCells] at c69 c70
  go_quiet (fail)
  rename_i nq
  have HB2 : Holds (w1.drewN nq) _ := HB1.drewN nq
  have SA2 := SA.drewN nq
  generalize w1.drewN nq = w2 at HB2 SA2 ⊢
  clear c69 c70 H HB1 SA HB
  by_cases hd : x.done = x.turn
  · have hd' : ((x.done : Int) == (x.turn : Int)) = true := by simp [hd]
    replace hd := Lib.hid hd
    go_wp2_with fail
    go_ret
    exact ⟨rfl, HB2, SA2⟩
  · have hd' : ((x.done : Int) == (x.turn : Int)) = false := beq_eq_false_iff_ne.2 (by omega)
    replace hd := Lib.hid hd
    go_wp2_with (first | (go_at_call 55; refine (bkHolds_c b T _ _ HB2 hT).mono ?_; rintro e w1 ⟨rfl, HB2, SB⟩; replace SA2 := SA2.trans SB) | (go_at_call 56; refine (bkGrow_c b T _ _ HB2 hT).mono ?_; rintro e w1 ⟨rfl, HB2, SB⟩; replace SA2 := SA2.trans SB))
    go_ret
    exact ⟨rfl, HB2, SA2⟩
end Go.Proofs.Ytngnfdlkkedaaaa
