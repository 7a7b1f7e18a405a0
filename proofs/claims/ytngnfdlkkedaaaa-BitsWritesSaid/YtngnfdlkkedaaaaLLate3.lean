/- Late: Add. -/
import Derived.Test.YtngnfdlkkedaaaaLLate2
import Derived.Deep.RegionWith
namespace Go.Proofs.Ytngnfdlkkedaaaa
set_option linter.unusedVariables false
set_option linter.unusedSimpArgs false
open Go.RowKit Go.SL Go.Fm

set_option maxRecDepth 100000 in
set_option maxHeartbeats 4000000 in
theorem lateAdd_c (b : Nat) (es : List Lt) (g u0 : Value) (B : List Nat) (w : World) (F : List HProp) (H : Holds w (lateL b es :: own 5 1 g B.length (bv B) :: F)) (hS : Sees F 1 u0 B.length (bv B)) (hB : ∀ x ∈ B, x < 256) (hes : es.length ≤ 100000) (hl : B.length ≤ 100000000000) :
    Calls Try.prog 52 #[.pointer (some ⟨b, 0, none⟩), g, u0] w (fun e w' => e = .returned (.tuple #[]) ∧ ∃ u, Holds w' (lateL b (es ++ [⟨g, u, B⟩]) :: F) ∧ Str w w') := by
  obtain ⟨iB, hBj, hBy0, hBy1, hBy2⟩ := info_parts info_bytes
  obtain ⟨v, u, H1⟩ := lateL_open H
  obtain ⟨aL, cL, rfl⟩ := own_shape H1.swap
  obtain ⟨aU, cU, rfl⟩ := own_shape H1.pull2
  obtain ⟨ag, cg, rfl⟩ := own_shape H1.pull4
  have c0 := H1.cell 0
  have c1 := H1.cell 1
  have z0 := H1.free 0
  simp at c0 c1
  have H2 := H1.swap
  clear H
  go_enter Try.func52, Try.ntmps52
  go_upto_region 1 with (at_builtin; refine wpList_append_sl rfl _ _ _ rfl iB (.slice none 0 0) Try.underlying54 hBj hBy0 hBy1 hBy2 rfl (by decide) rfl (x := .slice (some ⟨w.heap.size, 0, none⟩) 1 1) rfl (H2.alloc' _) (m := 1) (news := [.slice ag B.length cg]) (slice_new w _ _ _ 1 1 rfl (by decide)) (by simp [Value.oneCell']) (by omega) (by unfold maxLen; omega) ?_; intro v8 w8 H8 S8; obtain ⟨a8, k8, rfl⟩ := own_shape H8; have d0 := H8.swap.cell 0; have e0 := H8.swap.free 0; simp at d0)
  have H9 : Holds (w8.setCell ⟨b, 0, none⟩ (.slice a8 (es.length + 1) k8)) (latP b (.slice a8 (es.length + 1) k8) (.slice aU es.length cU) :: _) := H8.swap.store 0 _
  have S9 := ((Str.refl w).alloc _ |>.trans S8).setCell ⟨b, 0, none⟩ (.slice a8 (es.length + 1) k8)
  generalize w8.setCell ⟨b, 0, none⟩ (.slice a8 (es.length + 1) k8) = w9 at H9 S9 ⊢
  clear d0 e0 c0 c1 z0 H8 S8 H1 H2
  have c1 := H9.cell 1
  have z1 := H9.free 1
  simp at c1
  have H10 := Holds.ord (l := [_, _, _, _, _]) H9 [2, 0, 1, 3, 4] rfl
  simp only [List.map, List.getD_cons_zero, List.getD_cons_succ, List.cons_append, List.nil_append] at H10
  have hq1 := conv_str (P := Try.prog) Try.underlying25 Try.underlying5 Try.underlying9 ((hS _ H10.tail.tail.tail.tail.tail) : SliceIs w9.drew 1 _ _ _)
  have hu0 : ∃ a c, u0 = .slice a B.length c := by
    obtain ⟨_, h⟩ := hS w9 H10.tail.tail.tail.tail.tail
    rcases h with ⟨h, h'⟩ | ⟨ad, cap, h, _⟩
    · exact ⟨_, _, h.trans (by rw [h'])⟩
    · exact ⟨_, _, h⟩
  obtain ⟨au, cu, rfl⟩ := hu0
  have hq2 := run_bytes_of_string (P := Try.prog) w9.drew 9 25 5 (bstr B) Try.underlying9 Try.underlying25 Try.underlying5
  have HX := roS_conv (E := 5) (B := B) H10.drew hB (by unfold maxLen; omega) ((bytesRow (bstr B) (grownCap w9.drew (bstr B).size 0 5)).size, (bytesRow (bstr B) (grownCap w9.drew (bstr B).size 0 5)).size + 1)
  obtain ⟨w10, hw10⟩ : ∃ w10, w10 = w9.drew.drew.alloc (.cells (bytesRow (bstr B) (grownCap w9.drew (bstr B).size 0 5)) 5 ((bytesRow (bstr B) (grownCap w9.drew (bstr B).size 0 5)).size, (bytesRow (bstr B) (grownCap w9.drew (bstr B).size 0 5)).size + 1)) := ⟨_, rfl⟩
  obtain ⟨cX, hcX⟩ : ∃ c, c = grownCap w9.drew (bstr B).size 0 5 := ⟨_, rfl⟩
  have S10 : Str w w10 := by rw [hw10]; exact (S9.drew.drew.alloc _)
  rw [← hw10] at HX hq2
  rw [← hcX] at HX hq2
  rw [bstr_size] at HX hq2
  replace hw10 := Lib.hid hw10
  replace hcX := Lib.hid hcX
  obtain ⟨gX, hgX⟩ : ∃ gX, gX = w9.drew.heap.size := ⟨_, rfl⟩
  rw [← hgX] at HX hq2
  replace hgX := Lib.hid hgX
  have HY := HX.swap
  have c1' := HX.pull2.cell 1
  have z1' := HX.pull2.free 1
  simp at c1'
  have hlt10 := HX.pull2.lt
  have hlt9 := H9.lt
  have hne10 : b ≠ w10.heap.size := by omega
  have hne10' := Ne.symm hne10
  have hbig : es.length + 1 ≤ 5864062014805 := by omega
  have hmax : es.length + 1 ≤ maxLen := by unfold maxLen; omega
  go_region_law ((refine step_append_sl rfl _ _ _ rfl iB (.slice none 0 0) Try.underlying54 hBj hBy0 hBy1 hBy2 rfl (by decide) rfl rfl (HY.alloc' _) (m := 1) (slice_new w10 _ _ _ 1 1 rfl (by decide)) (by simp [Value.oneCell']) (by omega) hmax ?_; intro v8 w8 H8 S8; obtain ⟨a9, k9, rfl⟩ := own_shape H8; have d0 := H8.pull2.cell 1; have e0 := H8.pull2.free 1; simp at d0))
  all_goals
    go_end0
    refine ⟨rfl, .slice (some ⟨gX, 0, none⟩) B.length cX, ?_, ((S10.alloc _).trans S8).setCell _ _⟩
    have H12 := H8.pull2.store 1 (.slice a9 (es.length + 1) k9)
    have H13 := Holds.ord (l := [_, _, _, _, _, _]) H12 [5, 2, 4, 0, 3, 1] rfl
    simp only [List.map, List.getD_cons_zero, List.getD_cons_succ, List.cons_append, List.nil_append] at H13
    have H14 := two_push (e := ⟨.slice ag B.length cg, .slice (some ⟨gX, 0, none⟩) B.length cX, B⟩) H13
    have H15 := Holds.ord (l := [_, _, _, _]) H14 [1, 2, 3, 0] rfl
    simp only [List.map, List.getD_cons_zero, List.getD_cons_succ, List.cons_append, List.nil_append] at H15
    refine lateL_shut (v := .slice a8 (es.length + 1) k8) (u := .slice a9 (es.length + 1) k9) ?_
    rw [List.map_append, List.map_append, List.length_append]
    exact H15
end Go.Proofs.Ytngnfdlkkedaaaa
