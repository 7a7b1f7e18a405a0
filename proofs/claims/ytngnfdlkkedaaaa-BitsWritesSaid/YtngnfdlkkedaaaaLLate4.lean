/- Late: same. -/
import Derived.Test.YtngnfdlkkedaaaaLLate3
import Derived.BigQuiet
namespace Go.Proofs.Ytngnfdlkkedaaaa
set_option linter.unusedVariables false
set_option linter.unusedSimpArgs false
open Go.RowKit Go.SL Go.Fm

set_option maxRecDepth 100000 in
set_option maxHeartbeats 4000000 in
theorem lateSame_c (b : Nat) (es : List Lt) (w : World) (F : List HProp) (H : Holds w (lateL b es :: F)) (hes : es.length ≤ 100000) :
    Calls Try.prog 53 #[.pointer (some ⟨b, 0, none⟩)] w (Ret w (.bool true) (lateL b es :: F)) := by
  obtain ⟨v, u, H1⟩ := lateL_open H
  obtain ⟨aL, cL, rfl⟩ := own_shape H1.swap
  obtain ⟨aU, cU, rfl⟩ := own_shape H1.pull2
  clear H
  go_enter Try.func53, Try.ntmps53
  go_wp2
  go_loopw [3] (fun s3 wl => ∃ (k : Nat), k ≤ es.length ∧ s3 = .int .i64 k ∧ Holds wl (latP b (.slice aL es.length cL) (.slice aU es.length cU) :: own 25 1 (.slice aL es.length cL) es.length (es.map fun e => e.g) :: own 25 1 (.slice aU es.length cU) es.length (es.map fun e => e.u) :: all (es.map twoS) :: F) ∧ Str w wl) (fun s3 _ => (200000 - intOf s3).toNat)
  case atStart => exact ⟨0, by omega, rfl, H1, Str.refl w⟩
  case round =>
    clear H1
    obtain ⟨k, hk1, rfl, Hr, Sr⟩ := hrel
    have c0 := Hr.cell 0
    have c1 := Hr.cell 1
    simp at c0 c1
    by_cases hkn : k < es.length
    · obtain ⟨e, he⟩ : ∃ e, e = es[k] := ⟨_, rfl⟩
      have hmem : e ∈ es := by rw [he]; exact List.getElem_mem hkn
      have hkl : (k : Int) < (es.length : Int) := by omega
      obtain ⟨gL, oL, capL, hvL, hcL, hcmL, hcellL⟩ := Hr.swap.own_is.at (by omega)
      obtain ⟨gO, oO, capO, hvO, hcO, hcmO, hcellO⟩ := Hr.pull2.own_is.at (by omega)
      simp only [Value.slice.injEq] at hvL hvO
      obtain ⟨rfl, _, rfl⟩ := hvL
      obtain ⟨rfl, _, rfl⟩ := hvO
      have dL := hcellL k e.g (by simp [he, hkn])
      have dO := hcellO k e.u (by simp [he, hkn])
      replace he := Lib.hid he
      unfold maxLen at hcmL hcmO
      obtain ⟨i1, i2⟩ := two_is Hr.pull3 hmem
      have q1 := fun n => conv_str (P := Try.prog) Try.underlying25 Try.underlying5 Try.underlying9 ((two_is (Hr.drewN n).pull3 hmem).1)
      have q2 := fun n => conv_str (P := Try.prog) Try.underlying25 Try.underlying5 Try.underlying9 ((two_is (Hr.drewN n).pull3 hmem).2)
      clear hcellL hcellO i1 i2
      obtain ⟨eg, eu, eB⟩ := e
      simp only at dL dO q1 q2
      go_upto_region 4 with fail
      go_quiet (fail)
      rename_i nq
      have Hi2 : Holds (wr.drewN nq) _ := Hr.drewN nq
      have Si2 := Sr.drewN nq
      generalize wr.drewN nq = w2 at Hi2 Si2 ⊢
      go_wp2_with fail
      go_roundw
      case rel => exact ⟨k + 1, by omega, by congr 1, Hi2, Si2⟩
      case measure => (simp [intOf] <;> omega)
    · have hkl : ¬ (k : Int) < (es.length : Int) := by omega
      go_wp2_with fail
      go_ret
      exact ⟨rfl, lateL_shut Hr, Sr⟩
end Go.Proofs.Ytngnfdlkkedaaaa
