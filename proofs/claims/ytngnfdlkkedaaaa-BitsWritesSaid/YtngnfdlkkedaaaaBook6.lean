/- The laws' Book: the kinds that stay empty; grow. -/
import Derived.Test.YtngnfdlkkedaaaaBook5
namespace Go.Proofs.Ytngnfdlkkedaaaa
set_option linter.unusedVariables false
set_option linter.unusedSimpArgs false
open Go.RowKit Go.SL Go.Fm

set_option maxRecDepth 100000 in
theorem growRows_c (b T : Nat) (w : World) (F : List HProp) (H0 : Holds w (bookS b T :: F)) : Calls Try.prog 78 #[.pointer (some ⟨b, 0, none⟩)] w (Ret w (.tuple #[]) (bookS b T :: F)) := by
  obtain ⟨x, y, k1, k2, ok, H⟩ := bookS_open H0
  have c0 := H.cell 3
  have c2 := H.cell 5
  have z2 := H.free 5
  simp [bkCells] at c0 c2
  go_enter Try.func78, Try.ntmps78
  go_wp2
  refine wp_loop_rounds 1 ?_
  rw [rounds_succ]
  go_wp2
  go_end0
  exact ⟨rfl, bookS_shut ok (H.store 5 (.int .i64 0)), (Str.refl w).setCell _ _⟩
set_option maxRecDepth 100000 in
theorem growTexts_c (b T : Nat) (w : World) (F : List HProp) (H0 : Holds w (bookS b T :: F)) : Calls Try.prog 79 #[.pointer (some ⟨b, 0, none⟩)] w (Ret w (.tuple #[]) (bookS b T :: F)) := by
  obtain ⟨x, y, k1, k2, ok, H⟩ := bookS_open H0
  have c0 := H.cell 6
  have c2 := H.cell 8
  have z2 := H.free 8
  simp [bkCells] at c0 c2
  go_enter Try.func79, Try.ntmps79
  go_wp2
  refine wp_loop_rounds 1 ?_
  rw [rounds_succ]
  go_wp2
  go_end0
  exact ⟨rfl, bookS_shut ok (H.store 8 (.int .i64 0)), (Str.refl w).setCell _ _⟩
set_option maxRecDepth 100000 in
theorem growInts_c (b T : Nat) (w : World) (F : List HProp) (H0 : Holds w (bookS b T :: F)) : Calls Try.prog 80 #[.pointer (some ⟨b, 0, none⟩)] w (Ret w (.tuple #[]) (bookS b T :: F)) := by
  obtain ⟨x, y, k1, k2, ok, H⟩ := bookS_open H0
  have c0 := H.cell 9
  have c2 := H.cell 11
  have z2 := H.free 11
  simp [bkCells] at c0 c2
  go_enter Try.func80, Try.ntmps80
  go_wp2
  refine wp_loop_rounds 1 ?_
  rw [rounds_succ]
  go_wp2
  go_end0
  exact ⟨rfl, bookS_shut ok (H.store 11 (.int .i64 0)), (Str.refl w).setCell _ _⟩
set_option maxRecDepth 100000 in
theorem growPoints_c (b T : Nat) (w : World) (F : List HProp) (H0 : Holds w (bookS b T :: F)) : Calls Try.prog 84 #[.pointer (some ⟨b, 0, none⟩)] w (Ret w (.tuple #[]) (bookS b T :: F)) := by
  obtain ⟨x, y, k1, k2, ok, H⟩ := bookS_open H0
  have c0 := H.cell 21
  have c2 := H.cell 23
  have z2 := H.free 23
  simp [bkCells] at c0 c2
  go_enter Try.func84, Try.ntmps84
  go_wp2
  refine wp_loop_rounds 1 ?_
  rw [rounds_succ]
  go_wp2
  go_end0
  exact ⟨rfl, bookS_shut ok (H.store 23 (.int .i64 0)), (Str.refl w).setCell _ _⟩
set_option maxRecDepth 100000 in
theorem growSpans_c (b T : Nat) (w : World) (F : List HProp) (H0 : Holds w (bookS b T :: F)) : Calls Try.prog 85 #[.pointer (some ⟨b, 0, none⟩)] w (Ret w (.tuple #[]) (bookS b T :: F)) := by
  obtain ⟨x, y, k1, k2, ok, H⟩ := bookS_open H0
  have c0 := H.cell 24
  have c2 := H.cell 26
  have z2 := H.free 26
  simp [bkCells] at c0 c2
  go_enter Try.func85, Try.ntmps85
  go_wp2
  refine wp_loop_rounds 1 ?_
  rw [rounds_succ]
  go_wp2
  go_end0
  exact ⟨rfl, bookS_shut ok (H.store 26 (.int .i64 0)), (Str.refl w).setCell _ _⟩
set_option maxRecDepth 100000 in
theorem growLabels_c (b T : Nat) (w : World) (F : List HProp) (H0 : Holds w (bookS b T :: F)) : Calls Try.prog 86 #[.pointer (some ⟨b, 0, none⟩)] w (Ret w (.tuple #[]) (bookS b T :: F)) := by
  obtain ⟨x, y, k1, k2, ok, H⟩ := bookS_open H0
  have c0 := H.cell 27
  have c2 := H.cell 29
  have z2 := H.free 29
  simp [bkCells] at c0 c2
  go_enter Try.func86, Try.ntmps86
  go_wp2
  refine wp_loop_rounds 1 ?_
  rw [rounds_succ]
  go_wp2
  go_end0
  exact ⟨rfl, bookS_shut ok (H.store 29 (.int .i64 0)), (Str.refl w).setCell _ _⟩
set_option maxRecDepth 100000 in
theorem growSegments_c (b T : Nat) (w : World) (F : List HProp) (H0 : Holds w (bookS b T :: F)) : Calls Try.prog 87 #[.pointer (some ⟨b, 0, none⟩)] w (Ret w (.tuple #[]) (bookS b T :: F)) := by
  obtain ⟨x, y, k1, k2, ok, H⟩ := bookS_open H0
  have c0 := H.cell 30
  have c2 := H.cell 32
  have z2 := H.free 32
  simp [bkCells] at c0 c2
  go_enter Try.func87, Try.ntmps87
  go_wp2
  refine wp_loop_rounds 1 ?_
  rw [rounds_succ]
  go_wp2
  go_end0
  exact ⟨rfl, bookS_shut ok (H.store 32 (.int .i64 0)), (Str.refl w).setCell _ _⟩
set_option maxRecDepth 100000 in
theorem growParts_c (b T : Nat) (w : World) (F : List HProp) (H0 : Holds w (bookS b T :: F)) : Calls Try.prog 88 #[.pointer (some ⟨b, 0, none⟩)] w (Ret w (.tuple #[]) (bookS b T :: F)) := by
  obtain ⟨x, y, k1, k2, ok, H⟩ := bookS_open H0
  have c0 := H.cell 33
  have c2 := H.cell 35
  have z2 := H.free 35
  simp [bkCells] at c0 c2
  go_enter Try.func88, Try.ntmps88
  go_wp2
  refine wp_loop_rounds 1 ?_
  rw [rounds_succ]
  go_wp2
  go_end0
  exact ⟨rfl, bookS_shut ok (H.store 35 (.int .i64 0)), (Str.refl w).setCell _ _⟩
set_option maxRecDepth 100000 in
theorem growFiles_c (b T : Nat) (w : World) (F : List HProp) (H0 : Holds w (bookS b T :: F)) : Calls Try.prog 89 #[.pointer (some ⟨b, 0, none⟩)] w (Ret w (.tuple #[]) (bookS b T :: F)) := by
  obtain ⟨x, y, k1, k2, ok, H⟩ := bookS_open H0
  have c0 := H.cell 36
  have c2 := H.cell 38
  have z2 := H.free 38
  simp [bkCells] at c0 c2
  go_enter Try.func89, Try.ntmps89
  go_wp2
  refine wp_loop_rounds 1 ?_
  rw [rounds_succ]
  go_wp2
  go_end0
  exact ⟨rfl, bookS_shut ok (H.store 38 (.int .i64 0)), (Str.refl w).setCell _ _⟩
set_option maxRecDepth 100000 in
theorem growRuns_c (b T : Nat) (w : World) (F : List HProp) (H0 : Holds w (bookS b T :: F)) : Calls Try.prog 90 #[.pointer (some ⟨b, 0, none⟩)] w (Ret w (.tuple #[]) (bookS b T :: F)) := by
  obtain ⟨x, y, k1, k2, ok, H⟩ := bookS_open H0
  have c0 := H.cell 39
  have c2 := H.cell 41
  have z2 := H.free 41
  simp [bkCells] at c0 c2
  go_enter Try.func90, Try.ntmps90
  go_wp2
  refine wp_loop_rounds 1 ?_
  rw [rounds_succ]
  go_wp2
  go_end0
  exact ⟨rfl, bookS_shut ok (H.store 41 (.int .i64 0)), (Str.refl w).setCell _ _⟩
set_option maxRecDepth 100000 in
theorem growHelds_c (b T : Nat) (w : World) (F : List HProp) (H0 : Holds w (bookS b T :: F)) : Calls Try.prog 91 #[.pointer (some ⟨b, 0, none⟩)] w (Ret w (.tuple #[]) (bookS b T :: F)) := by
  obtain ⟨x, y, k1, k2, ok, H⟩ := bookS_open H0
  have c0 := H.cell 42
  have c2 := H.cell 44
  have z2 := H.free 44
  simp [bkCells] at c0 c2
  go_enter Try.func91, Try.ntmps91
  go_wp2
  refine wp_loop_rounds 1 ?_
  rw [rounds_succ]
  go_wp2
  go_end0
  exact ⟨rfl, bookS_shut ok (H.store 44 (.int .i64 0)), (Str.refl w).setCell _ _⟩
set_option maxRecDepth 100000 in
theorem growSeries_c (b T : Nat) (w : World) (F : List HProp) (H0 : Holds w (bookS b T :: F)) : Calls Try.prog 92 #[.pointer (some ⟨b, 0, none⟩)] w (Ret w (.tuple #[]) (bookS b T :: F)) := by
  obtain ⟨x, y, k1, k2, ok, H⟩ := bookS_open H0
  have c0 := H.cell 45
  have c2 := H.cell 47
  have z2 := H.free 47
  simp [bkCells] at c0 c2
  go_enter Try.func92, Try.ntmps92
  go_wp2
  refine wp_loop_rounds 1 ?_
  rw [rounds_succ]
  go_wp2
  go_end0
  exact ⟨rfl, bookS_shut ok (H.store 47 (.int .i64 0)), (Str.refl w).setCell _ _⟩
set_option maxRecDepth 100000 in
theorem growCells_c (b T : Nat) (w : World) (F : List HProp) (H0 : Holds w (bookS b T :: F)) : Calls Try.prog 93 #[.pointer (some ⟨b, 0, none⟩)] w (Ret w (.tuple #[]) (bookS b T :: F)) := by
  obtain ⟨x, y, k1, k2, ok, H⟩ := bookS_open H0
  have c0 := H.cell 48
  have c2 := H.cell 50
  have z2 := H.free 50
  simp [bkCells] at c0 c2
  go_enter Try.func93, Try.ntmps93
  go_wp2
  refine wp_loop_rounds 1 ?_
  rw [rounds_succ]
  go_wp2
  go_end0
  exact ⟨rfl, bookS_shut ok (H.store 50 (.int .i64 0)), (Str.refl w).setCell _ _⟩
set_option maxRecDepth 100000 in
theorem growCellses_c (b T : Nat) (w : World) (F : List HProp) (H0 : Holds w (bookS b T :: F)) : Calls Try.prog 94 #[.pointer (some ⟨b, 0, none⟩)] w (Ret w (.tuple #[]) (bookS b T :: F)) := by
  obtain ⟨x, y, k1, k2, ok, H⟩ := bookS_open H0
  have c0 := H.cell 51
  have c2 := H.cell 53
  have z2 := H.free 53
  simp [bkCells] at c0 c2
  go_enter Try.func94, Try.ntmps94
  go_wp2
  refine wp_loop_rounds 1 ?_
  rw [rounds_succ]
  go_wp2
  go_end0
  exact ⟨rfl, bookS_shut ok (H.store 53 (.int .i64 0)), (Str.refl w).setCell _ _⟩
set_option maxRecDepth 100000 in
theorem growMatches_c (b T : Nat) (w : World) (F : List HProp) (H0 : Holds w (bookS b T :: F)) : Calls Try.prog 95 #[.pointer (some ⟨b, 0, none⟩)] w (Ret w (.tuple #[]) (bookS b T :: F)) := by
  obtain ⟨x, y, k1, k2, ok, H⟩ := bookS_open H0
  have c0 := H.cell 54
  have c2 := H.cell 56
  have z2 := H.free 56
  simp [bkCells] at c0 c2
  go_enter Try.func95, Try.ntmps95
  go_wp2
  refine wp_loop_rounds 1 ?_
  rw [rounds_succ]
  go_wp2
  go_end0
  exact ⟨rfl, bookS_shut ok (H.store 56 (.int .i64 0)), (Str.refl w).setCell _ _⟩
set_option maxRecDepth 100000 in
theorem growNodes_c (b T : Nat) (w : World) (F : List HProp) (H0 : Holds w (bookS b T :: F)) : Calls Try.prog 96 #[.pointer (some ⟨b, 0, none⟩)] w (Ret w (.tuple #[]) (bookS b T :: F)) := by
  obtain ⟨x, y, k1, k2, ok, H⟩ := bookS_open H0
  have c0 := H.cell 57
  have c2 := H.cell 59
  have z2 := H.free 59
  simp [bkCells] at c0 c2
  go_enter Try.func96, Try.ntmps96
  go_wp2
  refine wp_loop_rounds 1 ?_
  rw [rounds_succ]
  go_wp2
  go_end0
  exact ⟨rfl, bookS_shut ok (H.store 59 (.int .i64 0)), (Str.refl w).setCell _ _⟩
set_option maxRecDepth 100000 in
theorem growInstrs_c (b T : Nat) (w : World) (F : List HProp) (H0 : Holds w (bookS b T :: F)) : Calls Try.prog 97 #[.pointer (some ⟨b, 0, none⟩)] w (Ret w (.tuple #[]) (bookS b T :: F)) := by
  obtain ⟨x, y, k1, k2, ok, H⟩ := bookS_open H0
  have c0 := H.cell 60
  have c2 := H.cell 62
  have z2 := H.free 62
  simp [bkCells] at c0 c2
  go_enter Try.func97, Try.ntmps97
  go_wp2
  refine wp_loop_rounds 1 ?_
  rw [rounds_succ]
  go_wp2
  go_end0
  exact ⟨rfl, bookS_shut ok (H.store 62 (.int .i64 0)), (Str.refl w).setCell _ _⟩
set_option maxRecDepth 100000 in
theorem growNeeds_c (b T : Nat) (w : World) (F : List HProp) (H0 : Holds w (bookS b T :: F)) : Calls Try.prog 98 #[.pointer (some ⟨b, 0, none⟩)] w (Ret w (.tuple #[]) (bookS b T :: F)) := by
  obtain ⟨x, y, k1, k2, ok, H⟩ := bookS_open H0
  have c0 := H.cell 63
  have c2 := H.cell 65
  have z2 := H.free 65
  simp [bkCells] at c0 c2
  go_enter Try.func98, Try.ntmps98
  go_wp2
  refine wp_loop_rounds 1 ?_
  rw [rounds_succ]
  go_wp2
  go_end0
  exact ⟨rfl, bookS_shut ok (H.store 65 (.int .i64 0)), (Str.refl w).setCell _ _⟩
set_option maxRecDepth 100000 in
theorem growWrites_c (b T : Nat) (w : World) (F : List HProp) (H0 : Holds w (bookS b T :: F)) : Calls Try.prog 99 #[.pointer (some ⟨b, 0, none⟩)] w (Ret w (.tuple #[]) (bookS b T :: F)) := by
  obtain ⟨x, y, k1, k2, ok, H⟩ := bookS_open H0
  have c0 := H.cell 66
  have c2 := H.cell 68
  have z2 := H.free 68
  simp [bkCells] at c0 c2
  go_enter Try.func99, Try.ntmps99
  go_wp2
  refine wp_loop_rounds 1 ?_
  rw [rounds_succ]
  go_wp2
  go_end0
  exact ⟨rfl, bookS_shut ok (H.store 68 (.int .i64 0)), (Str.refl w).setCell _ _⟩
set_option maxRecDepth 100000 in
set_option maxHeartbeats 2000000 in
theorem bkGrow_c (b T : Nat) (w : World) (F : List HProp) (HB : Holds w (bookS b T :: F)) (hT : T ≤ 900000000000) : Calls Try.prog 56 #[.pointer (some ⟨b, 0, none⟩)] w (Ret w (.tuple #[]) (bookS b T :: F)) := by
  have SA := Str.refl w
  go_enter Try.func56, Try.ntmps56
  go_wp2_with (first | (go_at_call 77; refine (growBytes_c b T _ _ HB hT).mono ?_; rintro e w' ⟨rfl, HB, SB⟩; replace SA := SA.trans SB) | (go_at_call 78; refine (growRows_c b T _ _ HB).mono ?_; rintro e w' ⟨rfl, HB, SB⟩; replace SA := SA.trans SB) | (go_at_call 79; refine (growTexts_c b T _ _ HB).mono ?_; rintro e w' ⟨rfl, HB, SB⟩; replace SA := SA.trans SB) | (go_at_call 80; refine (growInts_c b T _ _ HB).mono ?_; rintro e w' ⟨rfl, HB, SB⟩; replace SA := SA.trans SB) | (go_at_call 81; refine (growWords_c b T _ _ HB hT).mono ?_; rintro e w' ⟨rfl, HB, SB⟩; replace SA := SA.trans SB) | (go_at_call 82; refine (growSmalls_c b T _ _ HB hT).mono ?_; rintro e w' ⟨rfl, HB, SB⟩; replace SA := SA.trans SB) | (go_at_call 83; refine (growTimes_c b T _ _ HB hT).mono ?_; rintro e w' ⟨rfl, HB, SB⟩; replace SA := SA.trans SB) | (go_at_call 84; refine (growPoints_c b T _ _ HB).mono ?_; rintro e w' ⟨rfl, HB, SB⟩; replace SA := SA.trans SB) | (go_at_call 85; refine (growSpans_c b T _ _ HB).mono ?_; rintro e w' ⟨rfl, HB, SB⟩; replace SA := SA.trans SB) | (go_at_call 86; refine (growLabels_c b T _ _ HB).mono ?_; rintro e w' ⟨rfl, HB, SB⟩; replace SA := SA.trans SB) | (go_at_call 87; refine (growSegments_c b T _ _ HB).mono ?_; rintro e w' ⟨rfl, HB, SB⟩; replace SA := SA.trans SB) | (go_at_call 88; refine (growParts_c b T _ _ HB).mono ?_; rintro e w' ⟨rfl, HB, SB⟩; replace SA := SA.trans SB) | (go_at_call 89; refine (growFiles_c b T _ _ HB).mono ?_; rintro e w' ⟨rfl, HB, SB⟩; replace SA := SA.trans SB) | (go_at_call 90; refine (growRuns_c b T _ _ HB).mono ?_; rintro e w' ⟨rfl, HB, SB⟩; replace SA := SA.trans SB) | (go_at_call 91; refine (growHelds_c b T _ _ HB).mono ?_; rintro e w' ⟨rfl, HB, SB⟩; replace SA := SA.trans SB) | (go_at_call 92; refine (growSeries_c b T _ _ HB).mono ?_; rintro e w' ⟨rfl, HB, SB⟩; replace SA := SA.trans SB) | (go_at_call 93; refine (growCells_c b T _ _ HB).mono ?_; rintro e w' ⟨rfl, HB, SB⟩; replace SA := SA.trans SB) | (go_at_call 94; refine (growCellses_c b T _ _ HB).mono ?_; rintro e w' ⟨rfl, HB, SB⟩; replace SA := SA.trans SB) | (go_at_call 95; refine (growMatches_c b T _ _ HB).mono ?_; rintro e w' ⟨rfl, HB, SB⟩; replace SA := SA.trans SB) | (go_at_call 96; refine (growNodes_c b T _ _ HB).mono ?_; rintro e w' ⟨rfl, HB, SB⟩; replace SA := SA.trans SB) | (go_at_call 97; refine (growInstrs_c b T _ _ HB).mono ?_; rintro e w' ⟨rfl, HB, SB⟩; replace SA := SA.trans SB) | (go_at_call 98; refine (growNeeds_c b T _ _ HB).mono ?_; rintro e w' ⟨rfl, HB, SB⟩; replace SA := SA.trans SB) | (go_at_call 99; refine (growWrites_c b T _ _ HB).mono ?_; rintro e w' ⟨rfl, HB, SB⟩; replace SA := SA.trans SB; obtain ⟨x, y, k1, k2, ok, HL⟩ := bookS_open HB; have c69 := HL.cell 69; have c70 := HL.cell 70; have z70 := HL.free 70; simp [bkCells] at c69 c70))
  go_end0
  exact ⟨rfl, bookS_shut (x := { x with done := x.turn }) (y := y) (k1 := k1) (k2 := k2) ⟨ok.turn, ok.used, ok.cnt, ok.kb, ok.kw, ok.ks, ok.kt⟩ (HL.store 70 (.int .i64 (x.turn : Nat))), SA.setCell _ _⟩
end Go.Proofs.Ytngnfdlkkedaaaa
