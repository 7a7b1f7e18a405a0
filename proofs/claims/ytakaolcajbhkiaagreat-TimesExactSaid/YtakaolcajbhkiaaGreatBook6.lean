/- The laws' Book: the kinds that stay empty; grow. -/
import Derived.Test.YtakaolcajbhkiaaGreatBook5
namespace Go.Proofs.YtakaolcajbhkiaaGreat
set_option linter.unusedVariables false
set_option linter.unusedSimpArgs false
open Go.RowKit Go.SL Go.Fm

set_option maxRecDepth 100000 in
theorem growRows_c (b T : Nat) (w : World) (F : List HProp) (H0 : Holds w (bookS b T :: F)) : Calls Tryz.prog 57 #[.pointer (some ⟨b, 0, none⟩)] w (Ret w (.tuple #[]) (bookS b T :: F)) := by
  obtain ⟨x, y, k1, k2, ok, H⟩ := bookS_open H0
  have c0 := H.cell 3
  have c2 := H.cell 5
  have z2 := H.free 5
  simp [bkCells] at c0 c2
  go_enter Tryz.func57, Tryz.ntmps57
  go_wp2
  refine wp_loop_rounds 1 ?_
  rw [rounds_succ]
  go_wp2
  go_end0
  exact ⟨rfl, bookS_shut ok (H.store 5 (.int .i64 0)), (Str.refl w).setCell _ _⟩
set_option maxRecDepth 100000 in
theorem growTexts_c (b T : Nat) (w : World) (F : List HProp) (H0 : Holds w (bookS b T :: F)) : Calls Tryz.prog 58 #[.pointer (some ⟨b, 0, none⟩)] w (Ret w (.tuple #[]) (bookS b T :: F)) := by
  obtain ⟨x, y, k1, k2, ok, H⟩ := bookS_open H0
  have c0 := H.cell 6
  have c2 := H.cell 8
  have z2 := H.free 8
  simp [bkCells] at c0 c2
  go_enter Tryz.func58, Tryz.ntmps58
  go_wp2
  refine wp_loop_rounds 1 ?_
  rw [rounds_succ]
  go_wp2
  go_end0
  exact ⟨rfl, bookS_shut ok (H.store 8 (.int .i64 0)), (Str.refl w).setCell _ _⟩
set_option maxRecDepth 100000 in
theorem growInts_c (b T : Nat) (w : World) (F : List HProp) (H0 : Holds w (bookS b T :: F)) : Calls Tryz.prog 59 #[.pointer (some ⟨b, 0, none⟩)] w (Ret w (.tuple #[]) (bookS b T :: F)) := by
  obtain ⟨x, y, k1, k2, ok, H⟩ := bookS_open H0
  have c0 := H.cell 9
  have c2 := H.cell 11
  have z2 := H.free 11
  simp [bkCells] at c0 c2
  go_enter Tryz.func59, Tryz.ntmps59
  go_wp2
  refine wp_loop_rounds 1 ?_
  rw [rounds_succ]
  go_wp2
  go_end0
  exact ⟨rfl, bookS_shut ok (H.store 11 (.int .i64 0)), (Str.refl w).setCell _ _⟩
set_option maxRecDepth 100000 in
theorem growPoints_c (b T : Nat) (w : World) (F : List HProp) (H0 : Holds w (bookS b T :: F)) : Calls Tryz.prog 63 #[.pointer (some ⟨b, 0, none⟩)] w (Ret w (.tuple #[]) (bookS b T :: F)) := by
  obtain ⟨x, y, k1, k2, ok, H⟩ := bookS_open H0
  have c0 := H.cell 21
  have c2 := H.cell 23
  have z2 := H.free 23
  simp [bkCells] at c0 c2
  go_enter Tryz.func63, Tryz.ntmps63
  go_wp2
  refine wp_loop_rounds 1 ?_
  rw [rounds_succ]
  go_wp2
  go_end0
  exact ⟨rfl, bookS_shut ok (H.store 23 (.int .i64 0)), (Str.refl w).setCell _ _⟩
set_option maxRecDepth 100000 in
theorem growSpans_c (b T : Nat) (w : World) (F : List HProp) (H0 : Holds w (bookS b T :: F)) : Calls Tryz.prog 64 #[.pointer (some ⟨b, 0, none⟩)] w (Ret w (.tuple #[]) (bookS b T :: F)) := by
  obtain ⟨x, y, k1, k2, ok, H⟩ := bookS_open H0
  have c0 := H.cell 24
  have c2 := H.cell 26
  have z2 := H.free 26
  simp [bkCells] at c0 c2
  go_enter Tryz.func64, Tryz.ntmps64
  go_wp2
  refine wp_loop_rounds 1 ?_
  rw [rounds_succ]
  go_wp2
  go_end0
  exact ⟨rfl, bookS_shut ok (H.store 26 (.int .i64 0)), (Str.refl w).setCell _ _⟩
set_option maxRecDepth 100000 in
theorem growLabels_c (b T : Nat) (w : World) (F : List HProp) (H0 : Holds w (bookS b T :: F)) : Calls Tryz.prog 65 #[.pointer (some ⟨b, 0, none⟩)] w (Ret w (.tuple #[]) (bookS b T :: F)) := by
  obtain ⟨x, y, k1, k2, ok, H⟩ := bookS_open H0
  have c0 := H.cell 27
  have c2 := H.cell 29
  have z2 := H.free 29
  simp [bkCells] at c0 c2
  go_enter Tryz.func65, Tryz.ntmps65
  go_wp2
  refine wp_loop_rounds 1 ?_
  rw [rounds_succ]
  go_wp2
  go_end0
  exact ⟨rfl, bookS_shut ok (H.store 29 (.int .i64 0)), (Str.refl w).setCell _ _⟩
set_option maxRecDepth 100000 in
theorem growSegments_c (b T : Nat) (w : World) (F : List HProp) (H0 : Holds w (bookS b T :: F)) : Calls Tryz.prog 66 #[.pointer (some ⟨b, 0, none⟩)] w (Ret w (.tuple #[]) (bookS b T :: F)) := by
  obtain ⟨x, y, k1, k2, ok, H⟩ := bookS_open H0
  have c0 := H.cell 30
  have c2 := H.cell 32
  have z2 := H.free 32
  simp [bkCells] at c0 c2
  go_enter Tryz.func66, Tryz.ntmps66
  go_wp2
  refine wp_loop_rounds 1 ?_
  rw [rounds_succ]
  go_wp2
  go_end0
  exact ⟨rfl, bookS_shut ok (H.store 32 (.int .i64 0)), (Str.refl w).setCell _ _⟩
set_option maxRecDepth 100000 in
theorem growParts_c (b T : Nat) (w : World) (F : List HProp) (H0 : Holds w (bookS b T :: F)) : Calls Tryz.prog 67 #[.pointer (some ⟨b, 0, none⟩)] w (Ret w (.tuple #[]) (bookS b T :: F)) := by
  obtain ⟨x, y, k1, k2, ok, H⟩ := bookS_open H0
  have c0 := H.cell 33
  have c2 := H.cell 35
  have z2 := H.free 35
  simp [bkCells] at c0 c2
  go_enter Tryz.func67, Tryz.ntmps67
  go_wp2
  refine wp_loop_rounds 1 ?_
  rw [rounds_succ]
  go_wp2
  go_end0
  exact ⟨rfl, bookS_shut ok (H.store 35 (.int .i64 0)), (Str.refl w).setCell _ _⟩
set_option maxRecDepth 100000 in
theorem growFiles_c (b T : Nat) (w : World) (F : List HProp) (H0 : Holds w (bookS b T :: F)) : Calls Tryz.prog 68 #[.pointer (some ⟨b, 0, none⟩)] w (Ret w (.tuple #[]) (bookS b T :: F)) := by
  obtain ⟨x, y, k1, k2, ok, H⟩ := bookS_open H0
  have c0 := H.cell 36
  have c2 := H.cell 38
  have z2 := H.free 38
  simp [bkCells] at c0 c2
  go_enter Tryz.func68, Tryz.ntmps68
  go_wp2
  refine wp_loop_rounds 1 ?_
  rw [rounds_succ]
  go_wp2
  go_end0
  exact ⟨rfl, bookS_shut ok (H.store 38 (.int .i64 0)), (Str.refl w).setCell _ _⟩
set_option maxRecDepth 100000 in
theorem growRuns_c (b T : Nat) (w : World) (F : List HProp) (H0 : Holds w (bookS b T :: F)) : Calls Tryz.prog 69 #[.pointer (some ⟨b, 0, none⟩)] w (Ret w (.tuple #[]) (bookS b T :: F)) := by
  obtain ⟨x, y, k1, k2, ok, H⟩ := bookS_open H0
  have c0 := H.cell 39
  have c2 := H.cell 41
  have z2 := H.free 41
  simp [bkCells] at c0 c2
  go_enter Tryz.func69, Tryz.ntmps69
  go_wp2
  refine wp_loop_rounds 1 ?_
  rw [rounds_succ]
  go_wp2
  go_end0
  exact ⟨rfl, bookS_shut ok (H.store 41 (.int .i64 0)), (Str.refl w).setCell _ _⟩
set_option maxRecDepth 100000 in
theorem growHelds_c (b T : Nat) (w : World) (F : List HProp) (H0 : Holds w (bookS b T :: F)) : Calls Tryz.prog 70 #[.pointer (some ⟨b, 0, none⟩)] w (Ret w (.tuple #[]) (bookS b T :: F)) := by
  obtain ⟨x, y, k1, k2, ok, H⟩ := bookS_open H0
  have c0 := H.cell 42
  have c2 := H.cell 44
  have z2 := H.free 44
  simp [bkCells] at c0 c2
  go_enter Tryz.func70, Tryz.ntmps70
  go_wp2
  refine wp_loop_rounds 1 ?_
  rw [rounds_succ]
  go_wp2
  go_end0
  exact ⟨rfl, bookS_shut ok (H.store 44 (.int .i64 0)), (Str.refl w).setCell _ _⟩
set_option maxRecDepth 100000 in
theorem growSeries_c (b T : Nat) (w : World) (F : List HProp) (H0 : Holds w (bookS b T :: F)) : Calls Tryz.prog 71 #[.pointer (some ⟨b, 0, none⟩)] w (Ret w (.tuple #[]) (bookS b T :: F)) := by
  obtain ⟨x, y, k1, k2, ok, H⟩ := bookS_open H0
  have c0 := H.cell 45
  have c2 := H.cell 47
  have z2 := H.free 47
  simp [bkCells] at c0 c2
  go_enter Tryz.func71, Tryz.ntmps71
  go_wp2
  refine wp_loop_rounds 1 ?_
  rw [rounds_succ]
  go_wp2
  go_end0
  exact ⟨rfl, bookS_shut ok (H.store 47 (.int .i64 0)), (Str.refl w).setCell _ _⟩
set_option maxRecDepth 100000 in
theorem growCells_c (b T : Nat) (w : World) (F : List HProp) (H0 : Holds w (bookS b T :: F)) : Calls Tryz.prog 72 #[.pointer (some ⟨b, 0, none⟩)] w (Ret w (.tuple #[]) (bookS b T :: F)) := by
  obtain ⟨x, y, k1, k2, ok, H⟩ := bookS_open H0
  have c0 := H.cell 48
  have c2 := H.cell 50
  have z2 := H.free 50
  simp [bkCells] at c0 c2
  go_enter Tryz.func72, Tryz.ntmps72
  go_wp2
  refine wp_loop_rounds 1 ?_
  rw [rounds_succ]
  go_wp2
  go_end0
  exact ⟨rfl, bookS_shut ok (H.store 50 (.int .i64 0)), (Str.refl w).setCell _ _⟩
set_option maxRecDepth 100000 in
theorem growCellses_c (b T : Nat) (w : World) (F : List HProp) (H0 : Holds w (bookS b T :: F)) : Calls Tryz.prog 73 #[.pointer (some ⟨b, 0, none⟩)] w (Ret w (.tuple #[]) (bookS b T :: F)) := by
  obtain ⟨x, y, k1, k2, ok, H⟩ := bookS_open H0
  have c0 := H.cell 51
  have c2 := H.cell 53
  have z2 := H.free 53
  simp [bkCells] at c0 c2
  go_enter Tryz.func73, Tryz.ntmps73
  go_wp2
  refine wp_loop_rounds 1 ?_
  rw [rounds_succ]
  go_wp2
  go_end0
  exact ⟨rfl, bookS_shut ok (H.store 53 (.int .i64 0)), (Str.refl w).setCell _ _⟩
set_option maxRecDepth 100000 in
theorem growMatches_c (b T : Nat) (w : World) (F : List HProp) (H0 : Holds w (bookS b T :: F)) : Calls Tryz.prog 74 #[.pointer (some ⟨b, 0, none⟩)] w (Ret w (.tuple #[]) (bookS b T :: F)) := by
  obtain ⟨x, y, k1, k2, ok, H⟩ := bookS_open H0
  have c0 := H.cell 54
  have c2 := H.cell 56
  have z2 := H.free 56
  simp [bkCells] at c0 c2
  go_enter Tryz.func74, Tryz.ntmps74
  go_wp2
  refine wp_loop_rounds 1 ?_
  rw [rounds_succ]
  go_wp2
  go_end0
  exact ⟨rfl, bookS_shut ok (H.store 56 (.int .i64 0)), (Str.refl w).setCell _ _⟩
set_option maxRecDepth 100000 in
theorem growNodes_c (b T : Nat) (w : World) (F : List HProp) (H0 : Holds w (bookS b T :: F)) : Calls Tryz.prog 75 #[.pointer (some ⟨b, 0, none⟩)] w (Ret w (.tuple #[]) (bookS b T :: F)) := by
  obtain ⟨x, y, k1, k2, ok, H⟩ := bookS_open H0
  have c0 := H.cell 57
  have c2 := H.cell 59
  have z2 := H.free 59
  simp [bkCells] at c0 c2
  go_enter Tryz.func75, Tryz.ntmps75
  go_wp2
  refine wp_loop_rounds 1 ?_
  rw [rounds_succ]
  go_wp2
  go_end0
  exact ⟨rfl, bookS_shut ok (H.store 59 (.int .i64 0)), (Str.refl w).setCell _ _⟩
set_option maxRecDepth 100000 in
theorem growInstrs_c (b T : Nat) (w : World) (F : List HProp) (H0 : Holds w (bookS b T :: F)) : Calls Tryz.prog 76 #[.pointer (some ⟨b, 0, none⟩)] w (Ret w (.tuple #[]) (bookS b T :: F)) := by
  obtain ⟨x, y, k1, k2, ok, H⟩ := bookS_open H0
  have c0 := H.cell 60
  have c2 := H.cell 62
  have z2 := H.free 62
  simp [bkCells] at c0 c2
  go_enter Tryz.func76, Tryz.ntmps76
  go_wp2
  refine wp_loop_rounds 1 ?_
  rw [rounds_succ]
  go_wp2
  go_end0
  exact ⟨rfl, bookS_shut ok (H.store 62 (.int .i64 0)), (Str.refl w).setCell _ _⟩
set_option maxRecDepth 100000 in
theorem growNeeds_c (b T : Nat) (w : World) (F : List HProp) (H0 : Holds w (bookS b T :: F)) : Calls Tryz.prog 77 #[.pointer (some ⟨b, 0, none⟩)] w (Ret w (.tuple #[]) (bookS b T :: F)) := by
  obtain ⟨x, y, k1, k2, ok, H⟩ := bookS_open H0
  have c0 := H.cell 63
  have c2 := H.cell 65
  have z2 := H.free 65
  simp [bkCells] at c0 c2
  go_enter Tryz.func77, Tryz.ntmps77
  go_wp2
  refine wp_loop_rounds 1 ?_
  rw [rounds_succ]
  go_wp2
  go_end0
  exact ⟨rfl, bookS_shut ok (H.store 65 (.int .i64 0)), (Str.refl w).setCell _ _⟩
set_option maxRecDepth 100000 in
theorem growWrites_c (b T : Nat) (w : World) (F : List HProp) (H0 : Holds w (bookS b T :: F)) : Calls Tryz.prog 78 #[.pointer (some ⟨b, 0, none⟩)] w (Ret w (.tuple #[]) (bookS b T :: F)) := by
  obtain ⟨x, y, k1, k2, ok, H⟩ := bookS_open H0
  have c0 := H.cell 66
  have c2 := H.cell 68
  have z2 := H.free 68
  simp [bkCells] at c0 c2
  go_enter Tryz.func78, Tryz.ntmps78
  go_wp2
  refine wp_loop_rounds 1 ?_
  rw [rounds_succ]
  go_wp2
  go_end0
  exact ⟨rfl, bookS_shut ok (H.store 68 (.int .i64 0)), (Str.refl w).setCell _ _⟩
set_option maxRecDepth 100000 in
set_option maxHeartbeats 2000000 in
theorem bkGrow_c (b T : Nat) (w : World) (F : List HProp) (HB : Holds w (bookS b T :: F)) (hT : T ≤ 900000000000) : Calls Tryz.prog 28 #[.pointer (some ⟨b, 0, none⟩)] w (Ret w (.tuple #[]) (bookS b T :: F)) := by
  have SA := Str.refl w
  go_enter Tryz.func28, Tryz.ntmps28
  go_wp2_with (first | (go_at_call 56; refine (growBytes_c b T _ _ HB hT).mono ?_; rintro e w' ⟨rfl, HB, SB⟩; replace SA := SA.trans SB) | (go_at_call 57; refine (growRows_c b T _ _ HB).mono ?_; rintro e w' ⟨rfl, HB, SB⟩; replace SA := SA.trans SB) | (go_at_call 58; refine (growTexts_c b T _ _ HB).mono ?_; rintro e w' ⟨rfl, HB, SB⟩; replace SA := SA.trans SB) | (go_at_call 59; refine (growInts_c b T _ _ HB).mono ?_; rintro e w' ⟨rfl, HB, SB⟩; replace SA := SA.trans SB) | (go_at_call 60; refine (growWords_c b T _ _ HB hT).mono ?_; rintro e w' ⟨rfl, HB, SB⟩; replace SA := SA.trans SB) | (go_at_call 61; refine (growSmalls_c b T _ _ HB hT).mono ?_; rintro e w' ⟨rfl, HB, SB⟩; replace SA := SA.trans SB) | (go_at_call 62; refine (growTimes_c b T _ _ HB hT).mono ?_; rintro e w' ⟨rfl, HB, SB⟩; replace SA := SA.trans SB) | (go_at_call 63; refine (growPoints_c b T _ _ HB).mono ?_; rintro e w' ⟨rfl, HB, SB⟩; replace SA := SA.trans SB) | (go_at_call 64; refine (growSpans_c b T _ _ HB).mono ?_; rintro e w' ⟨rfl, HB, SB⟩; replace SA := SA.trans SB) | (go_at_call 65; refine (growLabels_c b T _ _ HB).mono ?_; rintro e w' ⟨rfl, HB, SB⟩; replace SA := SA.trans SB) | (go_at_call 66; refine (growSegments_c b T _ _ HB).mono ?_; rintro e w' ⟨rfl, HB, SB⟩; replace SA := SA.trans SB) | (go_at_call 67; refine (growParts_c b T _ _ HB).mono ?_; rintro e w' ⟨rfl, HB, SB⟩; replace SA := SA.trans SB) | (go_at_call 68; refine (growFiles_c b T _ _ HB).mono ?_; rintro e w' ⟨rfl, HB, SB⟩; replace SA := SA.trans SB) | (go_at_call 69; refine (growRuns_c b T _ _ HB).mono ?_; rintro e w' ⟨rfl, HB, SB⟩; replace SA := SA.trans SB) | (go_at_call 70; refine (growHelds_c b T _ _ HB).mono ?_; rintro e w' ⟨rfl, HB, SB⟩; replace SA := SA.trans SB) | (go_at_call 71; refine (growSeries_c b T _ _ HB).mono ?_; rintro e w' ⟨rfl, HB, SB⟩; replace SA := SA.trans SB) | (go_at_call 72; refine (growCells_c b T _ _ HB).mono ?_; rintro e w' ⟨rfl, HB, SB⟩; replace SA := SA.trans SB) | (go_at_call 73; refine (growCellses_c b T _ _ HB).mono ?_; rintro e w' ⟨rfl, HB, SB⟩; replace SA := SA.trans SB) | (go_at_call 74; refine (growMatches_c b T _ _ HB).mono ?_; rintro e w' ⟨rfl, HB, SB⟩; replace SA := SA.trans SB) | (go_at_call 75; refine (growNodes_c b T _ _ HB).mono ?_; rintro e w' ⟨rfl, HB, SB⟩; replace SA := SA.trans SB) | (go_at_call 76; refine (growInstrs_c b T _ _ HB).mono ?_; rintro e w' ⟨rfl, HB, SB⟩; replace SA := SA.trans SB) | (go_at_call 77; refine (growNeeds_c b T _ _ HB).mono ?_; rintro e w' ⟨rfl, HB, SB⟩; replace SA := SA.trans SB) | (go_at_call 78; refine (growWrites_c b T _ _ HB).mono ?_; rintro e w' ⟨rfl, HB, SB⟩; replace SA := SA.trans SB; obtain ⟨x, y, k1, k2, ok, HL⟩ := bookS_open HB; have c69 := HL.cell 69; have c70 := HL.cell 70; have z70 := HL.free 70; simp [bkCells] at c69 c70))
  go_end0
  exact ⟨rfl, bookS_shut (x := { x with done := x.turn }) (y := y) (k1 := k1) (k2 := k2) ⟨ok.turn, ok.used, ok.cnt, ok.kb, ok.kw, ok.ks, ok.kt⟩ (HL.store 70 (.int .i64 (x.turn : Nat))), SA.setCell _ _⟩
end Go.Proofs.YtakaolcajbhkiaaGreat
