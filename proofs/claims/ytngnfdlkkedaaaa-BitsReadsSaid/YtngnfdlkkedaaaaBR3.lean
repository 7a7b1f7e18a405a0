/- The reader of bits: Unary. -/
import Derived.Test.YtngnfdlkkedaaaaBR2
namespace Go.Proofs.Ytngnfdlkkedaaaa
set_option linter.unusedVariables false
set_option linter.unusedSimpArgs false
open Go.RowKit Go.SL Go.Fm

theorem bval_one (l : List Bool) (j : Nat) (b : Bool) (h : l[j]? = some b) : bval ((l.drop j).take 1) = b.toNat := by
  obtain ⟨hlt, hb⟩ := List.getElem?_eq_some_iff.1 h
  rw [List.drop_eq_getElem_cons hlt, List.take_succ_cons, List.take_zero, hb]
  simp [bval]

set_option maxRecDepth 100000 in
set_option maxHeartbeats 1000000 in
theorem rUnary_c (b : Nat) (s : Rs) (w : World) (F : List HProp) (H : Holds w (rS b s :: F)) :
    Calls Try.prog 38 #[.pointer (some ⟨b, 0, none⟩)] w (Ret w (.int .i64 (s.unary.1 : Nat)) (rS b s.unary.2 :: F)) := by
  obtain ⟨v, B, p, h1, h2, h3, h4, H1⟩ := rS_open H
  have hlen : s.L.length = 8 * B.length - p := by rw [h4, List.length_drop, length_unpack]
  have hpl : p + s.L.length = 8 * B.length := by omega
  have hpl' : p + s.L.length ≤ 8 * B.length := by omega
  replace h4 := Lib.hid h4
  clear hlen
  replace hpl := Lib.hid hpl
  have n11 := ne_bad (refuse_bad s (e := 11) (by decide))
  have n12 := ne_bad (refuse_bad s (e := 12) (by decide))
  have c1 := H1.cell 1
  simp at c1
  have c2 := bad_cell H
  have z1 := H1.free 1
  go_enter Try.func38, Try.ntmps38
  go_wp2
  go_loopw [3] (fun s3 wr => ∃ (j m : Nat), j ≤ 65 ∧ j ≤ s.L.length ∧ s3 = .int .i64 j ∧ (∀ i, i < j → s.L[i]? = some true) ∧ wr = w.drewN m) (fun s3 _ => (100 - intOf s3).toNat)
  case atStart => exact ⟨0, 0, by omega, by omega, rfl, fun i hi => by omega, rfl⟩
  case round =>
    obtain ⟨j, m, hj, hjl, rfl, hones, rfl⟩ := hrel
    replace hones := Lib.hid hones
    by_cases hj64 : j ≤ 64
    · by_cases hjL : j < s.L.length
      · have hv : bval (((unpack B).drop (p + j)).take 1) = s.L[j].toNat := by
          rw [← List.drop_drop, ← h4.out]
          exact bval_one _ _ _ (by simp [hjL])
        replace hv := Lib.hid hv
        cases hbit : s.L[j]
        · rw [hbit] at hv
          have hone : ones s.L = j := ones_eq _ _ hones.out (by simp [hjL, hbit])
          clear hbit
          by_cases hb : s.bad = 0
          · have hu : s.unary = (j, ⟨s.L.drop (j + 1), s.bad⟩) := by
              unfold Rs.unary
              rw [hone, if_neg (by omega), if_neg (by omega), if_neg (by simp [hb])]
            replace hu := Lib.hid hu
            clear hone
            rw [hb] at c2
            go_wp2_with (first | (go_at_call 20; refine (rLeft_c b s _ F (H.drewN _)).mono ?_; rintro e w' ⟨rfl, m1, rfl⟩) | (go_at_call 45; refine (peek_c b (p + j) 1 B v _ _ _ _ (H1.drewN _) h3 (by omega) (by omega) h2).mono ?_; rw [hv.out]; rintro e w' ⟨rfl, m2, rfl⟩))
            refine bodyPost_ret (results_tmp rfl _ _ _) rfl ?_
            rw [hu.out]
            refine ⟨rfl, rS_shut (v := v) (B := B) (p := p + (j + 1)) (by omega) h2 h3 (by simp only []; rw [h4.out, List.drop_drop]) ?_, (((Str.refl w).drewN _).setCell _ _)⟩
            exact (H1.drewN _).store 1 (.int .i64 (p + (j + 1) : Nat))
          · have hu : s.unary = (0, s) := by
              unfold Rs.unary
              rw [hone, if_neg (by omega), if_neg (by omega), if_pos hb]
            replace hu := Lib.hid hu
            clear hone
            have hb' := ne_bad hb
            go_wp2_with (first | (go_at_call 20; refine (rLeft_c b s _ F (H.drewN _)).mono ?_; rintro e w' ⟨rfl, m1, rfl⟩) | (go_at_call 45; refine (peek_c b (p + j) 1 B v _ _ _ _ (H1.drewN _) h3 (by omega) (by omega) h2).mono ?_; rw [hv.out]; rintro e w' ⟨rfl, m2, rfl⟩))
            refine bodyPost_ret (results_tmp rfl _ _ _) rfl ?_
            rw [hu.out]
            exact ⟨rfl, H.drewN _, (Str.refl w).drewN _⟩
        · rw [hbit] at hv
          replace hbit := Lib.hid hbit
          go_wp2_with (first | (go_at_call 20; refine (rLeft_c b s _ F (H.drewN _)).mono ?_; rintro e w' ⟨rfl, m1, rfl⟩) | (go_at_call 45; refine (peek_c b (p + j) 1 B v _ _ _ _ (H1.drewN _) h3 (by omega) (by omega) h2).mono ?_; rw [hv.out]; rintro e w' ⟨rfl, m2, rfl⟩))
          go_roundw
          case rel =>
            refine ⟨j + 1, _, by omega, by omega, by congr 1, fun i hi => ?_, rfl⟩
            by_cases e : i = j
            · subst e; simp [hjL, hbit.out]
            · exact hones.out i (by omega)
          case measure => simp [intOf]; omega
      · obtain rfl : j = s.L.length := by omega
        have hone : ones s.L = s.L.length := Nat.le_antisymm (ones_le _) (ones_lt_iff _ _ hones.out)
        have hu : s.unary = (0, s.refuse 12) := by
          unfold Rs.unary
          rw [hone, if_neg (by omega), if_pos rfl]
        replace hu := Lib.hid hu
        clear hone
        go_wp2_with (first | (go_at_call 20; refine (rLeft_c b s _ F (H.drewN _)).mono ?_; rintro e w' ⟨rfl, m1, rfl⟩) | (go_at_call 44; refine (rRefuse_c b 12 s _ F (H.drewN _)).mono ?_; rintro e w' ⟨rfl, H', S'⟩; have c2 := bad_cell H'))
        refine bodyPost_ret (results_tmp rfl _ _ _) rfl ?_
        rw [hu.out]
        exact ⟨rfl, H', ((Str.refl w).drewN _).trans S'⟩
    · obtain rfl : j = 65 := by omega
      have hone : 64 < ones s.L := ones_lt_iff _ _ hones.out
      have hu : s.unary = (0, s.refuse 11) := by
        unfold Rs.unary
        rw [if_pos hone]
      replace hu := Lib.hid hu
      clear hone
      go_wp2_with (first | (go_at_call 20; refine (rLeft_c b s _ F (H.drewN _)).mono ?_; rintro e w' ⟨rfl, m1, rfl⟩) | (go_at_call 44; refine (rRefuse_c b 11 s _ F (H.drewN _)).mono ?_; rintro e w' ⟨rfl, H', S'⟩; have c2 := bad_cell H'))
      refine bodyPost_ret (results_tmp rfl _ _ _) rfl ?_
      rw [hu.out]
      exact ⟨rfl, H', ((Str.refl w).drewN _).trans S'⟩
end Go.Proofs.Ytngnfdlkkedaaaa
