/- slices.Clone of bytes; Done; From. -/
import Derived.Test.YtakaolcajbhkiaaGreatBW2
import Derived.WalkSpells
namespace Go.Proofs.YtakaolcajbhkiaaGreat
set_option linter.unusedVariables false
set_option linter.unusedSimpArgs false
open Go.RowKit Go.SL Go.Fm

set_option maxRecDepth 100000 in
theorem clone_c (v : Value) (n : Nat) (xs : List Value) (w : World) (F : List HProp) (H : Holds w F) (hv : SliceIs w 1 v n xs) (h1 : ∀ u ∈ xs, u.oneCell' = true) (hn : n ≤ 140737488355328) :
    Calls Tryz.prog 82 #[v] w (RetV w (fun v' => own 5 1 v' n xs :: F)) := by
  obtain ⟨i0, hi, hz0, hz1, hz2⟩ := info_parts info_u8
  have hv' := Lib.hid hv
  obtain ⟨hl, h⟩ := hv
  rcases h with ⟨rfl, rfl⟩ | ⟨ad, cap, rfl, h1', h2', h3'⟩
  · obtain rfl : xs = [] := List.eq_nil_of_length_eq_zero (by simpa using hl)
    have hq := fun w a l c => Lib.run_eql_slice_nil (P := Tryz.prog) w 57 5 a l c 0 0 Tryz.underlying57
    go_enter Tryz.func82, Tryz.ntmps82
    go_wp2
    go_ret
    exact ⟨_, rfl, H.own_nil, Str.refl w⟩
  · have hq := fun w a l c => Lib.run_eql_slice_nil (P := Tryz.prog) w 57 5 a l c 0 0 Tryz.underlying57
    have H0 := (H.alloc (.cells #[] 5)).own_of_pts (n := 0) (cap := 0) (xs := []) (rest := []) (s := 1) (Nat.le_refl 0) (by decide) rfl rfl rfl
    go_enter Tryz.func82, Tryz.ntmps82
    go_wp2_with (at_builtin; refine wpList_append_sl rfl _ _ _ rfl i0 (.int .u8 0) Tryz.underlying57 hi hz0 hz1 hz2 rfl (by decide) rfl rfl H0 (hv'.out.alloc _) h1 (by omega) (by unfold maxLen; omega) ?_; intro v1 w1 H1 S1)
    go_ret
    rw [Nat.zero_add, List.nil_append] at H1
    exact ⟨_, rfl, H1, ((Str.refl w).alloc _).trans S1⟩

set_option maxRecDepth 100000 in
theorem wDone_ok (b : Nat) (s : Ws) (w : World) (F : List HProp) (H : Holds w (wS b s :: F)) (hb : s.bad = 0) (hL : s.L.length ≤ 10000000000) :
    Calls Tryz.prog 31 #[.pointer (some ⟨b, 0, none⟩)] w (fun e w' => ∃ v, e = .returned (.tuple #[v, .int .i64 0]) ∧ Holds w' (own 5 1 v (pack s.L).length (bv (pack s.L)) :: wS b s :: F) ∧ Str w w') := by
  obtain ⟨v, H1⟩ := wr_open H
  have c0 := H1.cell 0
  have c2 := H1.cell 2
  simp at c0 c2
  rw [hb] at c2
  go_enter Tryz.func31, Tryz.ntmps31
  go_wp2_with (go_at_call 82; refine (clone_c v _ _ w _ H H1.swap.own_is bv_cell (by rw [length_pack]; omega)).mono ?_; rintro e w' ⟨v', rfl, H', S'⟩)
  go_ret2
  exact ⟨v', rfl, H', S'⟩

set_option maxRecDepth 100000 in
theorem wDone_bad (b : Nat) (s : Ws) (w : World) (F : List HProp) (H : Holds w (wS b s :: F)) (hb : s.bad ≠ 0) :
    Calls Tryz.prog 31 #[.pointer (some ⟨b, 0, none⟩)] w (Ret w (.tuple #[.slice none 0 0, .int .i64 s.bad]) (wS b s :: F)) := by
  obtain ⟨v, H1⟩ := wr_open H
  have c0 := H1.cell 0
  have c2 := H1.cell 2
  simp at c0 c2
  have hb' : ((s.bad : Int) != 0) = true := by simp; omega
  go_enter Tryz.func31, Tryz.ntmps31
  go_wp2
  go_quiet (fail)
  rename_i nq
  go_wp2
  go_ret2
  exact ⟨rfl, H, (Str.refl w).drewN _⟩
end Go.Proofs.YtakaolcajbhkiaaGreat
