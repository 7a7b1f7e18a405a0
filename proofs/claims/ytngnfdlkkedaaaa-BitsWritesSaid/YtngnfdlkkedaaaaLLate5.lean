/- Late: Settle. -/
import Derived.Test.YtngnfdlkkedaaaaLLate4
namespace Go.Proofs.Ytngnfdlkkedaaaa
set_option linter.unusedVariables false
set_option linter.unusedSimpArgs false
open Go.RowKit Go.SL Go.Fm

set_option maxRecDepth 100000 in
set_option maxHeartbeats 4000000 in
theorem lateSettle_c (b c T N : Nat) (es : List Lt) (w : World) (F : List HProp) (H : Holds w (lateL b es :: bookS c T :: F)) (hes : es.length ≤ 100000) (hT : T ≤ 800000000000) (hB : ∀ e ∈ es, e.B.length ≤ 100000000000) (hN : N ≤ 100000) :
    Calls Try.prog 24 #[.pointer (some ⟨b, 0, none⟩), .pointer (some ⟨c, 0, none⟩), .int .i64 N] w (fun e w' => e = .returned (.bool true) ∧ ∃ (es' : List Lt) (T' : Nat), ((es' = es ∨ es' = []) ∧ T' + es'.length = T + es.length) ∧ Holds w' (lateL b es' :: bookS c T' :: F) ∧ Str w w') := by
  obtain ⟨v, u, H1⟩ := lateL_open H
  obtain ⟨aL, cL, rfl⟩ := own_shape H1.swap
  have c0 := H1.cell 0
  simp at c0
  by_cases hsm : es.length < N
  · have hsm' : (es.length : Int) < (N : Int) := by omega
    replace hsm := Lib.hid hsm
    go_enter Try.func24, Try.ntmps24
    go_wp2
    go_ret
    exact ⟨rfl, es, T, ⟨.inl rfl, rfl⟩, H, Str.refl w⟩
  · have hsm' : ¬ (es.length : Int) < (N : Int) := by omega
    replace hsm := Lib.hid hsm
    go_enter Try.func24, Try.ntmps24
    go_wp2_with (go_at_call 53; refine (lateSame_c b es _ _ H hes).mono ?_; rintro e w1 ⟨rfl, HS1, SA⟩)
    clear c0 H1 H
    obtain ⟨v, u, H1⟩ := lateL_open HS1
    obtain ⟨aL, cL, rfl⟩ := own_shape H1.swap
    clear HS1
    go_loopw [7] (fun s7 wl => ∃ (k : Nat), k ≤ es.length ∧ s7 = .int .i64 k ∧ Holds wl (latP b (.slice aL es.length cL) u :: own 25 1 (.slice aL es.length cL) es.length (es.map fun e => e.g) :: own 25 1 u es.length (es.map fun e => e.u) :: all ((es.drop k).map twoS) :: bookS c (T + k) :: F) ∧ Str w wl) (fun s7 _ => (200000 - intOf s7).toNat)
    case atStart => exact ⟨0, by omega, rfl, H1, SA⟩
    case round =>
      clear H1 SA
      obtain ⟨k, hk1, rfl, Hr, Sr⟩ := hrel
      have c0 := Hr.cell 0
      simp at c0
      by_cases hkn : k < es.length
      · obtain ⟨e, he⟩ : ∃ e, e = es[k] := ⟨_, rfl⟩
        have hmem : e ∈ es := by rw [he]; exact List.getElem_mem hkn
        have hbl := hB e hmem
        have hkl : (k : Int) < (es.length : Int) := by omega
        obtain ⟨gL, oL, capL, hvL, hcL, hcmL, hcellL⟩ := Hr.swap.own_is.at (by omega)
        simp only [Value.slice.injEq] at hvL
        obtain ⟨rfl, _, rfl⟩ := hvL
        have dL := hcellL k e.g (by simp [he, hkn])
        unfold maxLen at hcmL
        rw [List.drop_eq_getElem_cons hkn, ← he] at Hr
        replace he := Lib.hid he
        clear hcellL
        have H2 := Holds.ord (l := [_, _, _, _, _]) Hr [3, 4, 0, 1, 2] rfl
        simp only [List.map, List.getD_cons_zero, List.getD_cons_succ, List.cons_append, List.nil_append] at H2
        have H3 : Holds wr (twoS e :: all ((es.drop (k + 1)).map twoS) :: bookS c (T + k) :: latP b (.slice (some ⟨gL, oL, none⟩) es.length cL) u :: own 25 1 (.slice (some ⟨gL, oL, none⟩) es.length cL) es.length (es.map fun e => e.g) :: own 25 1 u es.length (es.map fun e => e.u) :: F) := H2.split
        have H4 := H3.split
        have H5 := Holds.ord (l := [_, _, _, _, _, _, _]) H4 [3, 0, 1, 2, 4, 5, 6] rfl
        simp only [List.map, List.getD_cons_zero, List.getD_cons_succ, List.cons_append, List.nil_append] at H5
        clear H2 H3 H4 Hr
        go_wp2_with (go_at_call 54; refine (bkBytes_c c (T + k) _ _ _ _ _ H5 (by omega) (by omega)).mono ?_; rintro e' w2 ⟨rfl, H6, S6⟩)
        go_roundw
        case rel =>
          have H7 := Holds.ord (l := [_, _, _, _, _, _]) H6 [1, 3, 4, 5, 2, 0] rfl
          simp only [List.map, List.getD_cons_zero, List.getD_cons_succ, List.cons_append, List.nil_append] at H7
          exact ⟨k + 1, by omega, by congr 1, H7.tail, Sr.trans S6⟩
        case measure => (simp [intOf] <;> omega)
      · obtain rfl : k = es.length := by omega
        have hkl : ¬ (es.length : Int) < (es.length : Int) := by omega
        have c1 := Hr.cell 1
        simp at c1
        have z0 := Hr.free 0
        have z1 := Hr.free 1
        have z1' := (Hr.store 0 (.slice none 0 0)).free 1
        have Hs := (Hr.store 0 (.slice none 0 0)).store 1 (.slice none 0 0)
        have Hs2 := Holds.ord (l := [_, _, _, _, _]) Hs [1, 2, 3, 0, 4] rfl
        simp only [List.map, List.getD_cons_zero, List.getD_cons_succ, List.cons_append, List.nil_append] at Hs2
        have Hs3 := (lateL_nil Hs2.tail.tail.tail).swap
        go_wp2_with (go_at_call 25; refine (bkLook_c c (T + es.length) _ _ Hs3 (by omega)).mono ?_; rintro e' w2 ⟨rfl, H6, S6⟩)
        go_ret
        exact ⟨rfl, [], T + es.length, ⟨.inr rfl, rfl⟩, H6.swap, ((Sr.setCell _ _).setCell _ _).trans S6⟩
end Go.Proofs.Ytngnfdlkkedaaaa
