/- The document's reader of bits: Unary. -/
import Derived.Test.YtngnfdlkkedaaaaR5
import Derived.Test.YtngnfdlkkedaaaaCodes
namespace Go.Proofs.Ytngnfdlkkedaaaa
set_option linter.unusedVariables false
set_option linter.unusedSimpArgs false
open Go.RowKit Go.SL Go.Fm

theorem u8_one (b : Bool) : (((b.toNat : Nat) : Int) == 1) = b := by cases b <;> rfl
theorem ones_get {l : List Bool} {j : Nat} (h : j < ones l) : l[j]? = some true := by
  induction l generalizing j with
  | nil => simp [ones] at h
  | cons b l ih =>
    cases b with
    | false => simp [ones] at h
    | true =>
      cases j with
      | zero => rfl
      | succ j => exact ih (by simpa [ones] using h)
theorem ones_end {l : List Bool} (h : ones l < l.length) : l[ones l]? = some false := by
  have e := ones_split l (by omega)
  have h2 : (List.replicate (ones l) true ++ false :: l.drop (ones l + 1))[ones l]? = some false := by
    rw [List.getElem?_append_right (by simp)]
    simp
  rw [← e] at h2
  exact h2

set_option maxRecDepth 100000 in
set_option maxHeartbeats 2000000 in
theorem rrUnary_c (b : Nat) (s : Rs) (w : World) (F : List HProp) (H : Holds w (qS b s :: F)) :
    Calls Try.prog 60 #[.pointer (some ⟨b, 0, none⟩)] w (Ret w (.int .i64 (s.unary.1 : Nat)) (qS b s.unary.2 :: F)) := by
  have hr11 : Calls Try.prog 100 #[.pointer (some ⟨b, 0, none⟩), .int .i64 11] w (Ret w (.tuple #[]) (qS b (s.refuse 11) :: F)) := rrRefuse_c b 11 s w F H
  have hr12 : Calls Try.prog 100 #[.pointer (some ⟨b, 0, none⟩), .int .i64 12] w (Ret w (.tuple #[]) (qS b (s.refuse 12) :: F)) := rrRefuse_c b 12 s w F H
  obtain ⟨a, c, H1, hac⟩ := rr_shape H
  have c0 := H1.cell 0
  have c1 := H1.cell 1
  simp at c0 c1
  have hsl := part_is H1.swap
  go_enter Try.func60, Try.ntmps60
  go_wp2
  go_loopw [3] (fun s3 wl => ∃ (j : Nat), j ≤ 65 ∧ j ≤ ones s.L ∧ s3 = .int .i64 j ∧ wl = w) (fun s3 _ => (100 - intOf s3).toNat)
  case atStart => exact ⟨0, by omega, by omega, rfl, rfl⟩
  case round =>
    obtain ⟨j, hj65, hjo, rfl, hw⟩ := hrel
    obtain rfl := hw.symm
    have hol := ones_le s.L
    by_cases hgo : j < ones s.L ∧ j ≤ 64
    · obtain ⟨hjn, hj64⟩ := hgo
      obtain ⟨g, off, cap, hv1, hcap, hcm, hc⟩ := hsl.at (by omega)
      simp only [Value.slice.injEq] at hv1
      obtain ⟨rfl, _, rfl⟩ := hv1
      have hlt : j < s.L.length := by omega
      have hg := ones_get hjn
      have d1 := hc j _ (nums_at hlt)
      rw [show s.L[j] = true by rw [List.getElem?_eq_getElem hlt] at hg; simpa using hg] at d1
      simp at d1
      unfold maxLen at hcm
      go_wp2_with fail
      go_roundw
      case rel => exact ⟨j + 1, by omega, by omega, by congr 1, by trivial⟩
      case measure => (simp [intOf] <;> omega)
    · have hL11 : (s.refuse 11).L = s.L := by unfold Rs.refuse; split <;> rfl
      by_cases h64 : 64 < ones s.L
      · obtain rfl : j = 65 := by omega
        have hun : s.unary = (0, s.refuse 11) := by unfold Rs.unary; rw [if_pos h64]
        replace hun := Lib.hid hun
        have hr12b : ∀ W, Holds W (qS b (s.refuse 11) :: F) → Calls Try.prog 100 #[.pointer (some ⟨b, 0, none⟩), .int .i64 12] W (Ret W (.tuple #[]) (qS b ((s.refuse 11).refuse 12) :: F)) := fun W h => rrRefuse_c b 12 (s.refuse 11) W F h
        have hnb : (s.refuse 11).bad ≠ 0 := by unfold Rs.refuse; split <;> simp_all
        have hb2 : (((s.refuse 11).bad : Int) != 0) = true := by simp; omega
        have h12 : (s.refuse 11).refuse 12 = s.refuse 11 := if_neg hnb
        rw [h12] at hr12b
        obtain ⟨n, hn⟩ : ∃ n, n = s.L.length := ⟨_, rfl⟩
        have hn65 : 65 ≤ n := by omega
        have hd : ∀ h : 65 < s.L.length, (bv (nums s.L))[65]? = some (.int .u8 ((s.L[65].toNat : Nat) : Int)) := fun h => nums_at h
        have hL2 : (s.refuse 11).L.length = n := by rw [hL11, hn]
        rw [← hn] at hsl c0 hol
        obtain ⟨g, off, cap, hv1, hcap, hcm, hc⟩ := hsl.at (by omega)
        simp only [Value.slice.injEq] at hv1
        obtain ⟨rfl, _, rfl⟩ := hv1
        replace hL2 := Lib.hid hL2
        unfold maxLen at hcm
        replace hn := Lib.hid hn
        clear h12 hL11 hnb hr12 hsl hjo hol h64 hgo hj65 H1 hac c1
        by_cases hlen : n ≤ 65
        · have hq : ¬ (65 : Int) < (n : Int) := by omega
          have hq2 : (n : Int) ≤ 65 := by omega
          clear hd hc
          go_wp2_with (first | (go_at_call 100; (with_reducible refine hr11.mono ?_); rintro e w1 ⟨rfl, H2, S2⟩; obtain ⟨a2, c2, H3, _⟩ := rr_shape H2; rw [hL2.out] at H3; have e0 := H3.cell 0; have e1 := H3.cell 1; simp at e0 e1; clear H3) | (go_at_call 100; (with_reducible refine (hr12b _ H2).mono ?_); rintro e w3 ⟨rfl, H4, S4⟩; obtain ⟨v4, H5⟩ := qS_open H4; have f1 := H5.cell 1; simp at f1; clear H5) | fail)
          refine bodyPost_ret (results_tmp rfl _ _ _) rfl ?_
          rw [hun.out]
          exact ⟨rfl, H4, S2.trans S4⟩
        · have hq : (65 : Int) < (n : Int) := by omega
          have d1 := hc 65 _ (hd (by rw [← hn.out]; omega))
          clear hc hd
          go_wp2_with (first | (go_at_call 100; (with_reducible refine hr11.mono ?_); rintro e w1 ⟨rfl, H2, S2⟩; obtain ⟨a2, c2, H3, _⟩ := rr_shape H2; rw [hL2.out] at H3; have e0 := H3.cell 0; have e1 := H3.cell 1; simp at e0 e1; clear H3) | fail)
          all_goals
            refine bodyPost_ret (results_tmp rfl _ _ _) rfl ?_
            rw [hun.out]
            exact ⟨rfl, H2, S2⟩
      · have h64' : ones s.L ≤ 64 := by omega
        by_cases hlen : ones s.L = s.L.length
        · have hun : s.unary = (0, s.refuse 12) := by unfold Rs.unary; rw [if_neg h64, if_pos hlen]
          replace hun := Lib.hid hun
          obtain rfl : j = s.L.length := by omega
          have hnb : (s.refuse 12).bad ≠ 0 := refuse_bad s (by decide)
          have hb2 : (((s.refuse 12).bad : Int) != 0) = true := by simp; omega
          have hk : (s.L.length : Int) ≤ 64 := by omega
          clear hlen h64' h64 hgo hol hjo hL11
          go_wp2_with (go_at_call 100; refine hr12.mono ?_; rintro e w1 ⟨rfl, H2, S2⟩; obtain ⟨v', H3⟩ := qS_open H2; have e1 := H3.cell 1; simp at e1)
          refine bodyPost_ret (results_tmp rfl _ _ _) rfl ?_
          rw [hun.out]
          exact ⟨rfl, H2, S2⟩
        · have hjl : j < s.L.length := by omega
          have hz : s.L[j]? = some false := by
            have := ones_end (l := s.L) (by omega)
            rwa [show ones s.L = j by omega] at this
          rw [List.getElem?_eq_getElem hjl] at hz
          simp only [Option.some.injEq] at hz
          obtain ⟨g, off, cap, hv1, hcap, hcm, hc⟩ := hsl.at (by omega)
          simp only [Value.slice.injEq] at hv1
          obtain ⟨rfl, _, rfl⟩ := hv1
          have d1 := hc j _ (nums_at hjl)
          rw [hz] at d1
          simp at d1
          have hk : (j : Int) ≤ 64 := by omega
          have hun : s.unary = if s.bad ≠ 0 then (0, s) else (j, ⟨s.L.drop (j + 1), s.bad⟩) := by unfold Rs.unary; rw [if_neg h64, if_neg hlen, show ones s.L = j by omega]
          replace hun := Lib.hid hun
          clear hz hc hlen h64' h64 hgo hol hL11 hjo hr11 hr12
          by_cases hb : s.bad = 0
          · rw [hb] at c1
            have key : ∀ off' c', (off' = off + (j + 1) ∨ s.L.length - (j + 1) = 0) → s.L.length - (j + 1) ≤ c' → c' ≤ maxLen → Holds (w.setCell ⟨b, 0, none⟩ (.slice (some ⟨g, off', none⟩) (s.L.length - (j + 1)) c')) (qS b ⟨s.L.drop (j + 1), 0⟩ :: F) := by
              intro off' c' h1 h2 h3
              refine qS_shut (v := .slice (some ⟨g, off', none⟩) (s.L.length - (j + 1)) c') (L := s.L.drop (j + 1)) (bad := 0) rfl rfl ?_
              rw [List.length_drop, show bv (nums (s.L.drop (j + 1))) = (bv (nums s.L)).drop (j + 1) by simp [bv, nums, List.map_drop]]
              have e := (part_drop (H1.store 0 (.slice (some ⟨g, off', none⟩) (s.L.length - (j + 1)) c')).swap (show j + 1 ≤ s.L.length by omega)).2 g off c' rfl h2 h3 off' h1
              rw [hb] at e
              exact e.swap
            replace key := Lib.hid key
            replace hb := Lib.hid hb
            unfold maxLen at hcm
            have z0 := H1.free 0
            go_wp2_with fail
            all_goals
              go_ret
              rw [hun.out, if_neg (by rw [hb.out]; decide)]
              exact ⟨rfl, by simp only [hb.out]; exact key.out _ _ (by first | exact .inl rfl | exact .inr (by omega)) (by omega) (by unfold maxLen; omega), (Str.refl w).setCell _ _⟩
          · have hb2 : ((s.bad : Int) != 0) = true := by simp; omega
            replace hb := Lib.hid hb
            go_wp2_with fail
            refine bodyPost_ret (results_tmp rfl _ _ _) rfl ?_
            rw [hun.out, if_pos hb.out]
            exact ⟨rfl, H, Str.refl w⟩
end Go.Proofs.Ytngnfdlkkedaaaa
