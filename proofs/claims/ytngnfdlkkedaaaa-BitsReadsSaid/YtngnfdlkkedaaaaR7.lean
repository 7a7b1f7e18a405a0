/- The document's reader of bits: Var, Zig. -/
import Derived.Test.YtngnfdlkkedaaaaR6
namespace Go.Proofs.Ytngnfdlkkedaaaa
set_option linter.unusedVariables false
set_option linter.unusedSimpArgs false
open Go.RowKit Go.SL Go.Fm

theorem rvar_num (x g k : Nat) (hx : x < 2 ^ (7 * k)) (hk : k ≤ 9) (h9 : k = 9 → g ≤ 1) (hg : g < 256) : x + g % 128 * 2 ^ (7 * k) < 18446744073709551616 ∧ g % 128 * 2 ^ (7 * k) < 18446744073709551616 := by
  have hb := var_bound x g k hx
  have h0 := Nat.zero_le x
  by_cases h : k = 9
  · subst h
    have := h9 rfl
    have h63 : (2 : Nat) ^ (7 * 9) = 9223372036854775808 := by decide
    rw [h63] at hx ⊢
    have : g % 128 ≤ 1 := by omega
    omega
  · have h1 : 2 ^ (7 * (k + 1)) ≤ 2 ^ 63 := Nat.pow_le_pow_right (by decide) (by omega)
    have h63 : (2 : Nat) ^ 63 = 9223372036854775808 := by decide
    omega

theorem rvar_word (x g k : Nat) (h1 : x + g % 128 * 2 ^ (7 * k) < 18446744073709551616) (h2 : g % 128 * 2 ^ (7 * k) < 18446744073709551616) :
    Value.int IntKind.u64 (IntKind.u64.wrap (↑x + IntKind.u64.wrap (↑g % 128 * 2 ^ (7 * k)))) = .int .u64 ((x + g % 128 * 2 ^ (7 * k) : Nat) : Int) := by
  have e : ((g : Int) % 128 * 2 ^ (7 * k)) = ((g % 128 * 2 ^ (7 * k) : Nat) : Int) := by simp
  rw [e, IntWalk.u64_in ((g % 128 * 2 ^ (7 * k) : Nat) : Int) (by omega), IntWalk.u64_in _ (by omega)]
  congr 1

set_option maxRecDepth 100000 in
set_option maxHeartbeats 4000000 in
theorem rrVar_ok (b : Nat) (s : Rs) (w : World) (F : List HProp) (H : Holds w (qS b s :: F)) (hb : s.bad = 0) :
    Calls Try.prog 61 #[.pointer (some ⟨b, 0, none⟩)] w (Ret w (.int .u64 (s.var.1 : Nat)) (qS b s.var.2 :: F)) := by
  have hr12 : Calls Try.prog 100 #[.pointer (some ⟨b, 0, none⟩), .int .i64 12] w (Ret w (.tuple #[]) (qS b (s.refuse 12) :: F)) := rrRefuse_c b 12 s w F H
  have hr13 : Calls Try.prog 100 #[.pointer (some ⟨b, 0, none⟩), .int .i64 13] w (Ret w (.tuple #[]) (qS b (s.refuse 13) :: F)) := rrRefuse_c b 13 s w F H
  obtain ⟨a, c, H1, hac⟩ := rr_shape H
  have c0 := H1.cell 0
  have c1 := H1.cell 1
  simp at c0 c1
  rw [hb] at c1
  have hsl := part_is H1.swap
  have z0 := H1.free 0
  replace hb := Lib.hid hb
  go_enter Try.func61, Try.ntmps61
  go_wp2
  go_loopw [3, 4] (fun s3 s4 wl => ∃ k x : Nat, k ≤ 9 ∧ 8 * k ≤ s.L.length ∧ x < 2 ^ (7 * k) ∧ varGo (s.L.drop (8 * k)) k x = varGo s.L 0 0 ∧ s3 = .int .u64 x ∧ s4 = .int .i64 k ∧ wl = w) (fun _ s4 _ => (10 - intOf s4).toNat)
  case atStart => exact ⟨0, 0, by omega, by omega, by decide, by simp, rfl, rfl, rfl⟩
  case round =>
    obtain ⟨k, x, hk, hkl, hx, hgo, rfl, rfl, hw⟩ := hrel
    obtain rfl := hw.symm
    have hlm : s.L.length ≤ maxLen := by
      rcases hsl.2 with ⟨_, h⟩ | ⟨a1, cap1, h1, h2, h3, _⟩
      · unfold maxLen; omega
      · unfold maxLen at *; omega
    unfold maxLen at hlm
    by_cases hs : s.L.length < 8 * k + 8
    · have hu : s.var = (0, s.refuse 12) := by
        unfold Rs.var
        rw [if_neg (by simp [hb.out]), ← hgo, varGo_short (by rw [List.length_drop]; omega)]
      replace hu := Lib.hid hu
      clear hgo hx
      go_wp2_with (go_at_call 100; refine hr12.mono ?_; rintro e w1 ⟨rfl, H2, S2⟩)
      refine bodyPost_ret (results_tmp rfl _ _ _) rfl ?_
      rw [hu.out]
      exact ⟨rfl, H2, S2⟩
    · obtain ⟨g0, off, cap, hv1, hcap, hcm, hc⟩ := hsl.at (by omega)
      simp only [Value.slice.injEq] at hv1
      obtain ⟨rfl, _, rfl⟩ := hv1
      have hl8 : ¬ (s.L.drop (8 * k)).length < 8 := by rw [List.length_drop]; omega
      have hg256 : bval ((s.L.drop (8 * k)).take 8) < 256 := Nat.lt_of_lt_of_le (bval_take_lt _ 8) (by decide)
      obtain ⟨g, hg⟩ : ∃ g, g = bval ((s.L.drop (8 * k)).take 8) := ⟨_, rfl⟩
      rw [← hg] at hg256
      have hN : ∀ (off' n' cap' : Nat), off' = off + 8 * k → n' = 8 → 8 ≤ cap' → cap' ≤ maxLen → Calls Try.prog 63 #[.slice (some ⟨g0, off', none⟩) n' cap'] w (fun e w' => e = .returned (.int .u64 (g : Nat)) ∧ w' = w) := by
        rintro off' n' cap' rfl rfl h3 h4
        have hlen8 : ((s.L.drop (8 * k)).take 8).length = 8 := by rw [List.length_take]; omega
        rw [hg]
        refine number_c _ _ w ⟨by simp [length_nums], .inr ⟨_, cap', by rw [hlen8], by rw [hlen8]; exact h3, h4, fun j x hj => ?_⟩⟩ (by omega)
        rw [add_plain', Nat.add_assoc]
        refine hc _ _ ?_
        have e : bv (nums ((s.L.drop (8 * k)).take 8)) = ((bv (nums s.L)).drop (8 * k)).take 8 := by simp [bv, nums, List.map_take, List.map_drop]
        rw [e, List.getElem?_take] at hj
        split at hj
        · rw [List.getElem?_drop] at hj; exact hj
        · cases hj
      have hN := Lib.hid hN
      clear hsl
      replace hc := Lib.hid hc
      have hgo := Lib.hid hgo
      by_cases hbad : (k = 9 ∧ 1 < g) ∨ (0 < k ∧ g = 0)
      · have hu : s.var = (0, s.refuse 13) := by
          unfold Rs.var
          rw [if_neg (by simp [hb.out]), ← hgo.out, varGo_form hl8 (by rw [← hg]; exact hbad)]
        replace hu := Lib.hid hu
        replace hg := Lib.hid hg
        replace hl8 := Lib.hid hl8
        have hcase : (k = 9 ∧ 1 < g) ∨ (k = 9 ∧ g = 0) ∨ (k ≠ 9 ∧ 0 < k ∧ g = 0) := by omega
        unfold maxLen at hcm
        replace hx := Lib.hid hx
        clear hbad
        rcases hcase with ⟨hk9, h9⟩ | ⟨hk9, h9⟩ | ⟨hk9, hk0, h9⟩
        · have t1 : ((k : Int) == 9) = true := by simp; omega
          have t2 : (1 : Int) < g := by omega
          replace hk9 := Lib.hid hk9
          go_wp2_with (first | (go_at_call 63; refine (hN.out _ _ _ (by omega) (by omega) (by omega) (by unfold maxLen; omega)).mono ?_; rintro e w' ⟨rfl, hw'⟩; obtain rfl := hw'.symm) | (go_at_call 100; refine hr13.mono ?_; rintro e w1 ⟨rfl, H2, S2⟩))
          refine bodyPost_ret (results_tmp rfl _ _ _) rfl ?_
          rw [hu.out]
          exact ⟨rfl, H2, S2⟩
        · have t1 : ((k : Int) == 9) = true := by simp; omega
          have t2 : ¬ (1 : Int) < g := by omega
          have t3 : (0 : Int) < k := by omega
          have t4 : ((g : Int) == 0) = true := by simp; omega
          have t5 : (g : Int) < 128 := by omega
          replace hk9 := Lib.hid hk9
          replace h9 := Lib.hid h9
          go_wp2_with (first | (go_at_call 63; refine (hN.out _ _ _ (by omega) (by omega) (by omega) (by unfold maxLen; omega)).mono ?_; rintro e w' ⟨rfl, hw'⟩; obtain rfl := hw'.symm) | (go_at_call 100; refine hr13.mono ?_; rintro e w1 ⟨rfl, H2, S2⟩))
          refine bodyPost_ret (results_tmp rfl _ _ _) rfl ?_
          rw [hu.out]
          exact ⟨rfl, H2, S2⟩
        · have t1 : ((k : Int) == 9) = false := by simp; omega
          have t3 : (0 : Int) < k := by omega
          have t4 : ((g : Int) == 0) = true := by simp; omega
          have t5 : (g : Int) < 128 := by omega
          replace hk9 := Lib.hid hk9
          replace h9 := Lib.hid h9
          go_wp2_with (first | (go_at_call 63; refine (hN.out _ _ _ (by omega) (by omega) (by omega) (by unfold maxLen; omega)).mono ?_; rintro e w' ⟨rfl, hw'⟩; obtain rfl := hw'.symm) | (go_at_call 100; refine hr13.mono ?_; rintro e w1 ⟨rfl, H2, S2⟩))
          refine bodyPost_ret (results_tmp rfl _ _ _) rfl ?_
          rw [hu.out]
          exact ⟨rfl, H2, S2⟩
      · by_cases hg1 : 128 ≤ g
        · have hk9 : ((k : Int) == 9) = false := by simp; omega
          have hnext : varGo (s.L.drop (8 * (k + 1))) (k + 1) (x + g % 128 * 2 ^ (7 * k)) = varGo s.L 0 0 := by
            rw [← hgo.out, varGo_more hl8 (by rw [← hg]; exact hbad) (by rw [← hg]; exact hg1), List.drop_drop, ← hg]
            rfl
          have hnum := rvar_num x g k hx hk (by omega) hg256
          have hbnd := var_bound x g k hx
          replace hnext := Lib.hid hnext
          replace hg := Lib.hid hg
          replace hx := Lib.hid hx
          replace hbnd := Lib.hid hbnd
          replace hnum := Lib.hid hnum
          unfold maxLen at hcm
          go_wp2_with (go_at_call 63; refine (hN.out _ _ _ (by omega) (by omega) (by omega) (by unfold maxLen; omega)).mono ?_; rintro e w' ⟨rfl, hw'⟩; obtain rfl := hw'.symm)
          go_roundw
          case rel =>
            have hn := hnum.out
            refine ⟨k + 1, x + g % 128 * 2 ^ (7 * k), by omega, by omega, hbnd.out, hnext.out, ?_, by congr 1, by trivial⟩
            rw [rvar_word x g k hn.1 hn.2]
          case measure => (simp [intOf] <;> omega)
        · have hu : s.var = (x + g % 128 * 2 ^ (7 * k), ⟨s.L.drop (8 * (k + 1)), s.bad⟩) := by
            unfold Rs.var
            rw [if_neg (by simp [hb.out]), ← hgo.out, varGo_done hl8 (by rw [← hg]; exact hbad) (by rw [← hg]; exact hg1), List.drop_drop, ← hg]
            rfl
          have hnum := rvar_num x g k hx hk (by omega) hg256
          have key : ∀ off' c', (off' = off + (8 * k + 8) ∨ s.L.length - (8 * k + 8) = 0) → s.L.length - (8 * k + 8) ≤ c' → c' ≤ maxLen → Holds (w.setCell ⟨b, 0, none⟩ (.slice (some ⟨g0, off', none⟩) (s.L.length - (8 * k + 8)) c')) (qS b ⟨s.L.drop (8 * k + 8), 0⟩ :: F) := by
            intro off' c' h1 h2 h3
            refine qS_shut (v := .slice (some ⟨g0, off', none⟩) (s.L.length - (8 * k + 8)) c') (L := s.L.drop (8 * k + 8)) (bad := 0) rfl rfl ?_
            rw [List.length_drop, show bv (nums (s.L.drop (8 * k + 8))) = (bv (nums s.L)).drop (8 * k + 8) by simp [bv, nums, List.map_drop]]
            have e := (part_drop (H1.store 0 (.slice (some ⟨g0, off', none⟩) (s.L.length - (8 * k + 8)) c')).swap (show 8 * k + 8 ≤ s.L.length by omega)).2 g0 off c' rfl h2 h3 off' h1
            rw [hb.out] at e
            exact e.swap
          replace key := Lib.hid key
          replace hnum := Lib.hid hnum
          replace hg := Lib.hid hg
          replace hu := Lib.hid hu
          replace hx := Lib.hid hx
          have t5 : (g : Int) < 128 := by omega
          unfold maxLen at hcm
          have hcase : (k = 9 ∧ g = 1) ∨ (k ≠ 9 ∧ k = 0 ∧ g = 0) ∨ (k ≠ 9 ∧ k = 0 ∧ g ≠ 0) ∨ (k ≠ 9 ∧ 0 < k ∧ g ≠ 0) := by omega
          clear hbad
          have fin : ∀ off' c', (off' = off + (8 * k + 8) ∨ s.L.length - (8 * k + 8) = 0) → s.L.length - (8 * k + 8) ≤ c' → c' ≤ maxLen →
              Ret w (.int .u64 (s.var.1 : Nat)) (qS b s.var.2 :: F) (.returned (.int .u64 (IntKind.u64.wrap (↑x + IntKind.u64.wrap (↑g % 128 * 2 ^ (7 * k)))))) (w.setCell ⟨b, 0, none⟩ (.slice (some ⟨g0, off', none⟩) (s.L.length - (8 * k + 8)) c')) := by
            intro off' c' h1 h2 h3
            rw [hu.out, rvar_word x g k hnum.out.1 hnum.out.2]
            refine ⟨rfl, ?_, (Str.refl w).setCell _ _⟩
            have e := key.out off' c' h1 h2 h3
            simp only [hb.out]
            exact e
          replace fin := Lib.hid fin
          rcases hcase with ⟨hk9, h9⟩ | ⟨hk9, h9, h10⟩ | ⟨hk9, h9, h10⟩ | ⟨hk9, hk0, h9⟩
          · have t1 : ((k : Int) == 9) = true := by simp; omega
            have t2 : ¬ (1 : Int) < g := by omega
            have t3 : (0 : Int) < k := by omega
            have t4 : ((g : Int) == 0) = false := by simp; omega
            replace hk9 := Lib.hid hk9
            replace h9 := Lib.hid h9
            go_wp2_with (go_at_call 63; refine (hN.out _ _ _ (by omega) (by omega) (by omega) (by unfold maxLen; omega)).mono ?_; rintro e w' ⟨rfl, hw'⟩; obtain rfl := hw'.symm)
            all_goals
              refine bodyPost_ret (results_tmp rfl _ _ _) rfl ?_
              refine fin.out _ _ (by first | exact .inl rfl | exact .inl (by omega) | exact .inr (by omega)) (by omega) (by unfold maxLen; omega)
          · have t1 : ((k : Int) == 9) = false := by simp; omega
            have t4 : ((g : Int) == 0) = true := by simp; omega
            have t3 : ¬ (0 : Int) < k := by omega
            replace hk9 := Lib.hid hk9
            replace h9 := Lib.hid h9
            replace h10 := Lib.hid h10
            go_wp2_with (go_at_call 63; refine (hN.out _ _ _ (by omega) (by omega) (by omega) (by unfold maxLen; omega)).mono ?_; rintro e w' ⟨rfl, hw'⟩; obtain rfl := hw'.symm)
            all_goals
              refine bodyPost_ret (results_tmp rfl _ _ _) rfl ?_
              refine fin.out _ _ (by first | exact .inl rfl | exact .inl (by omega) | exact .inr (by omega)) (by omega) (by unfold maxLen; omega)
          · have t1 : ((k : Int) == 9) = false := by simp; omega
            have t4 : ((g : Int) == 0) = false := by simp; omega
            have t3 : ¬ (0 : Int) < k := by omega
            replace hk9 := Lib.hid hk9
            replace h9 := Lib.hid h9
            replace h10 := Lib.hid h10
            go_wp2_with (go_at_call 63; refine (hN.out _ _ _ (by omega) (by omega) (by omega) (by unfold maxLen; omega)).mono ?_; rintro e w' ⟨rfl, hw'⟩; obtain rfl := hw'.symm)
            all_goals
              refine bodyPost_ret (results_tmp rfl _ _ _) rfl ?_
              refine fin.out _ _ (by first | exact .inl rfl | exact .inl (by omega) | exact .inr (by omega)) (by omega) (by unfold maxLen; omega)
          · have t1 : ((k : Int) == 9) = false := by simp; omega
            have t3 : (0 : Int) < k := by omega
            have t4 : ((g : Int) == 0) = false := by simp; omega
            replace hk9 := Lib.hid hk9
            replace h9 := Lib.hid h9
            go_wp2_with (go_at_call 63; refine (hN.out _ _ _ (by omega) (by omega) (by omega) (by unfold maxLen; omega)).mono ?_; rintro e w' ⟨rfl, hw'⟩; obtain rfl := hw'.symm)
            all_goals
              refine bodyPost_ret (results_tmp rfl _ _ _) rfl ?_
              refine fin.out _ _ (by first | exact .inl rfl | exact .inl (by omega) | exact .inr (by omega)) (by omega) (by unfold maxLen; omega)
set_option maxRecDepth 100000 in
theorem rrVar_c (b : Nat) (s : Rs) (w : World) (F : List HProp) (H : Holds w (qS b s :: F)) :
    Calls Try.prog 61 #[.pointer (some ⟨b, 0, none⟩)] w (Ret w (.int .u64 (s.var.1 : Nat)) (qS b s.var.2 :: F)) := by
  by_cases hb : s.bad = 0
  · exact rrVar_ok b s w F H hb
  · have hu : s.var = (0, s) := by unfold Rs.var; rw [if_pos hb]
    rw [hu]
    obtain ⟨v, H1⟩ := qS_open H
    have c1 := H1.cell 1
    simp at c1
    have hb2 : ((s.bad : Int) != 0) = true := by simp; omega
    replace hu := Lib.hid hu
    replace hb := Lib.hid hb
    go_enter Try.func61, Try.ntmps61
    go_wp2_with fail
    refine bodyPost_ret (results_tmp rfl _ _ _) rfl ⟨rfl, H, Str.refl w⟩

set_option maxRecDepth 100000 in
theorem rrZig_c (b : Nat) (s : Rs) (w : World) (F : List HProp) (H : Holds w (qS b s :: F)) :
    Calls Try.prog 62 #[.pointer (some ⟨b, 0, none⟩)] w (Ret w (.int .i64 s.zig.1) (qS b s.zig.2 :: F)) := by
  have h1 := rrVar_c b s w F H
  have h2 := fun W => Back_c s.var.1 (var_lt s) W
  go_enter Try.func62, Try.ntmps62
  go_wp2_with (first | (go_at_call 61; refine h1.mono ?_; rintro e w' ⟨rfl, H', S'⟩) | (go_at_call 101; refine (h2 _).mono ?_; rintro e w' ⟨rfl, hw'⟩; obtain rfl := hw'.symm))
  go_ret
  exact ⟨rfl, H', S'⟩
end Go.Proofs.Ytngnfdlkkedaaaa
