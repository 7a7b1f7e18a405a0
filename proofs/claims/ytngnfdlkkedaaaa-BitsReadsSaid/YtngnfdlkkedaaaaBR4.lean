/- The reader of bits: Var, Zig; From. -/
import Derived.Test.YtngnfdlkkedaaaaBR3
namespace Go.Proofs.Ytngnfdlkkedaaaa
set_option linter.unusedVariables false
set_option linter.unusedSimpArgs false
open Go.RowKit Go.SL Go.Fm

/-- The pieces of a Var's rounds. -/
theorem varGo_short {L : List Bool} {k x : Nat} (h : L.length < 8) : varGo L k x = .inl 12 := by rw [varGo, dif_pos h]
theorem varGo_form {L : List Bool} {k x : Nat} (h : ¬ L.length < 8) (h2 : (k = 9 ∧ 1 < bval (L.take 8)) ∨ (0 < k ∧ bval (L.take 8) = 0)) : varGo L k x = .inl 13 := by rw [varGo, dif_neg h, if_pos h2]
theorem varGo_more {L : List Bool} {k x : Nat} (h : ¬ L.length < 8) (h2 : ¬ ((k = 9 ∧ 1 < bval (L.take 8)) ∨ (0 < k ∧ bval (L.take 8) = 0))) (h3 : 128 ≤ bval (L.take 8)) :
    varGo L k x = varGo (L.drop 8) (k + 1) (x + bval (L.take 8) % 128 * 2 ^ (7 * k)) := by rw [varGo, dif_neg h, if_neg h2, if_pos h3]
theorem varGo_done {L : List Bool} {k x : Nat} (h : ¬ L.length < 8) (h2 : ¬ ((k = 9 ∧ 1 < bval (L.take 8)) ∨ (0 < k ∧ bval (L.take 8) = 0))) (h3 : ¬ 128 ≤ bval (L.take 8)) :
    varGo L k x = .inr (x + bval (L.take 8) % 128 * 2 ^ (7 * k), L.drop 8) := by rw [varGo, dif_neg h, if_neg h2, if_neg h3]

/-- What the program reckons for a group. -/
theorem var_num (x g k : Nat) (hx : x < 2 ^ (7 * k)) (hk : k ≤ 9) (h9 : k = 9 → g ≤ 1) (hg : g < 256) :
    bits .or .u64 (x : Int) (IntKind.u64.wrap (bits .and .u64 (g : Int) 127 * 2 ^ (7 * k))) = ((x + g % 128 * 2 ^ (7 * k) : Nat) : Int) := by
  have hw : ∀ n : Int, 0 ≤ n → n < 2 ^ 64 → IntKind.u64.wrap n = n := fun n a b => IntWalk.u64_in n (by omega)
  have e : bits .and .u64 (g : Int) 127 = (g : Int) % 128 := bits_mask .u64 64 (by decide) hw 7 (by decide) _ (by omega) (by omega)
  have e3 : (g : Int) % 128 * 2 ^ (7 * k) = ((g % 128 * 2 ^ (7 * k) : Nat) : Int) := by simp
  have hlt : g % 128 * 2 ^ (7 * k) < 2 ^ 64 := by
    by_cases h : k = 9
    · subst h
      have : g % 128 ≤ 1 := by have := h9 rfl; omega
      calc g % 128 * 2 ^ (7 * 9) ≤ 1 * 2 ^ (7 * 9) := Nat.mul_le_mul_right _ this
        _ < 2 ^ 64 := by decide
    · have h1 : 2 ^ (7 * k) ≤ 2 ^ 56 := Nat.pow_le_pow_right (by decide) (by omega)
      calc g % 128 * 2 ^ (7 * k) ≤ 127 * 2 ^ 56 := Nat.mul_le_mul (by omega) h1
        _ < 2 ^ 64 := by decide
  have h64 : (2 : Nat) ^ 64 = 18446744073709551616 := by decide
  have hx2 : 2 ^ (7 * k) ≤ 2 ^ 63 := Nat.pow_le_pow_right (by decide) (by omega)
  have h63 : (2 : Nat) ^ 63 = 9223372036854775808 := by decide
  rw [e, e3]
  rw [IntWalk.u64_in _ (by omega), bits_or_comm]
  have hd : ((g % 128 * 2 ^ (7 * k) : Nat) : Int) % 2 ^ (7 * k) = 0 := by simp
  have hxi : (x : Int) < 2 ^ (7 * k) := by
    have : ((2 ^ (7 * k) : Nat) : Int) = 2 ^ (7 * k) := by simp
    rw [← this]; omega
  rw [bits_join .u64 64 (by decide) hw (7 * k) _ _ (by omega) hd (by omega) (by omega) hxi (by omega)]
  omega
theorem var_bound (x g k : Nat) (hx : x < 2 ^ (7 * k)) : x + g % 128 * 2 ^ (7 * k) < 2 ^ (7 * (k + 1)) := by
  have : g % 128 + 1 ≤ 128 := by omega
  have h1 : (g % 128 + 1) * 2 ^ (7 * k) ≤ 128 * 2 ^ (7 * k) := Nat.mul_le_mul_right _ this
  rw [show 7 * (k + 1) = 7 + 7 * k by omega, Nat.pow_add]
  rw [Nat.add_mul] at h1
  have : (2 : Nat) ^ 7 = 128 := by decide
  omega

set_option maxRecDepth 100000 in
set_option maxHeartbeats 1000000 in
theorem rVar_ok (b : Nat) (s : Rs) (w : World) (F : List HProp) (H : Holds w (rS b s :: F)) (hb : s.bad = 0) :
    Calls Try.prog 39 #[.pointer (some ⟨b, 0, none⟩)] w (Ret w (.int .u64 (s.var.1 : Nat)) (rS b s.var.2 :: F)) := by
  obtain ⟨v, B, p, h1, h2, h3, h4, H1⟩ := rS_open H
  have hlen : s.L.length = 8 * B.length - p := by rw [h4, List.length_drop, length_unpack]
  have hpl : p + s.L.length = 8 * B.length := by omega
  clear hlen
  replace h4 := Lib.hid h4
  replace hpl := Lib.hid hpl
  have c1 := H1.cell 1
  simp at c1
  have c2 := bad_cell H
  rw [hb] at c2
  have z1 := H1.free 1
  go_enter Try.func39, Try.ntmps39
  go_wp2_with fail
  refine wp_scope_label 0 (fun a' w' => ∃ (k x m : Nat) (u5 u11 u12 u13 u14 u15 u16 u17 u18 u19 u20 u21 u22 u23 u24 u25 u26 u27 u28 u29 u30 u31 u32 u33 u34 u35 u36 u37 u38 u39 u40 u41 u42 u43 u44 u45 u46 u47 u48 u49 u50 u51 u52 u53 u54 : Value), a' = { tmps := #[.pointer (some ⟨b, 0, none⟩), undef, .int .u64 0, .int .u64 x, .int .i64 k, u5, .pointer (some ⟨b, 0, none⟩), .pointer (some ⟨b, 0, none⟩), .pointer (some ⟨b, 2, none⟩), .int .i64 0, .bool false, u11, u12, u13, u14, u15, u16, u17, u18, u19, u20, u21, u22, u23, u24, u25, u26, u27, u28, u29, u30, u31, u32, u33, u34, u35, u36, u37, u38, u39, u40, u41, u42, u43, u44, u45, u46, u47, u48, u49, u50, u51, u52, u53, u54, undef, undef, undef, undef, undef, undef, undef, undef, undef, undef], defers := [] } ∧ k ≤ 9 ∧ 8 * k ≤ s.L.length ∧ x < 2 ^ (7 * k) ∧ varGo (s.L.drop (8 * k)) k x = varGo s.L 0 0 ∧ w' = w.drewN m)
    (fun a' _ => (10 - intOf (a'.tmps.getD 4 undef)).toNat) rfl ?_ ?_
  · rintro a' w' ⟨k, x, m, u5, u11, u12, u13, u14, u15, u16, u17, u18, u19, u20, u21, u22, u23, u24, u25, u26, u27, u28, u29, u30, u31, u32, u33, u34, u35, u36, u37, u38, u39, u40, u41, u42, u43, u44, u45, u46, u47, u48, u49, u50, u51, u52, u53, u54, rfl, hk, hkl, hx, hgo, rfl⟩
    have hsl : s.L.length ≤ 10000000000000 := by have := hpl.out; omega
    by_cases hs : s.L.length < 8 * k + 8
    · have hu : s.var = (0, s.refuse 12) := by
        unfold Rs.var
        rw [if_neg (by simp [hb]), ← hgo, varGo_short (by rw [List.length_drop]; omega)]
      replace hu := Lib.hid hu
      clear hgo
      go_wp2_with (first | (go_at_call 20; refine (rLeft_c b s _ F (H.drewN _)).mono ?_; rintro e w' ⟨rfl, m1, rfl⟩) | (go_at_call 45; refine (peek_c b (p + 8 * k) 8 B v _ _ _ _ (H1.drewN _) h3 (by omega) (by omega) h2).mono ?_; rw [hv.out]; rintro e w' ⟨rfl, m2, rfl⟩) | (go_at_call 44; refine (rRefuse_c b 12 s _ F (H.drewN _)).mono ?_; rintro e w' ⟨rfl, H', S'⟩))
      refine bodyPost_ret (results_tmp rfl _ _ _) rfl ?_
      rw [hu.out]
      exact ⟨rfl, H', ((Str.refl w).drewN _).trans S'⟩
    · have hpl8 : p + 8 * k + 8 ≤ 8 * B.length := by have := hpl.out; omega
      have hl8 : ¬ (s.L.drop (8 * k)).length < 8 := by rw [List.length_drop]; omega
      have hg256 : bval ((s.L.drop (8 * k)).take 8) < 256 := Nat.lt_of_lt_of_le (bval_take_lt _ 8) (by decide)
      obtain ⟨g, hg⟩ : ∃ g, g = bval ((s.L.drop (8 * k)).take 8) := ⟨_, rfl⟩
      have hv : bval (((unpack B).drop (p + 8 * k)).take 8) = g := by
        rw [hg, ← List.drop_drop, ← h4.out]
      rw [← hg] at hg256
      replace hv := Lib.hid hv
      replace hgo := Lib.hid hgo
      by_cases hbad : (k = 9 ∧ 1 < g) ∨ (0 < k ∧ g = 0)
      · have hu : s.var = (0, s.refuse 13) := by
          unfold Rs.var
          rw [if_neg (by simp [hb]), ← hgo.out, varGo_form hl8 (by rw [← hg]; exact hbad)]
        replace hu := Lib.hid hu
        replace hg := Lib.hid hg
        clear hl8
        have hcase : (k = 9 ∧ 1 < g) ∨ (k = 9 ∧ g = 0) ∨ (k ≠ 9 ∧ 0 < k ∧ g = 0) := by omega
        clear hbad
        rcases hcase with ⟨hk9, h9⟩ | ⟨hk9, h9⟩ | ⟨hk9, hk0, h9⟩
        · have t1 : ((k : Int) == 9) = true := by simp; omega
          have t2 : (1 : Int) < g := by omega
          replace hk9 := Lib.hid hk9
          go_wp2_with (first | (go_at_call 20; refine (rLeft_c b s _ F (H.drewN _)).mono ?_; rintro e w' ⟨rfl, m1, rfl⟩) | (go_at_call 45; refine (peek_c b (p + 8 * k) 8 B v _ _ _ _ (H1.drewN _) h3 (by omega) (by omega) h2).mono ?_; rw [hv.out]; rintro e w' ⟨rfl, m2, rfl⟩) | (go_at_call 44; refine (rRefuse_c b 13 s _ F (H.drewN _)).mono ?_; rintro e w' ⟨rfl, H', S'⟩))
          refine bodyPost_ret (results_tmp rfl _ _ _) rfl ?_
          rw [hu.out]
          exact ⟨rfl, H', ((Str.refl w).drewN _).trans S'⟩
        · have t1 : ((k : Int) == 9) = true := by simp; omega
          have t2 : ¬ (1 : Int) < g := by omega
          have t3 : (0 : Int) < k := by omega
          have t4 : ((g : Int) == 0) = true := by simp; omega
          replace hk9 := Lib.hid hk9
          replace h9 := Lib.hid h9
          go_wp2_with (first | (go_at_call 20; refine (rLeft_c b s _ F (H.drewN _)).mono ?_; rintro e w' ⟨rfl, m1, rfl⟩) | (go_at_call 45; refine (peek_c b (p + 8 * k) 8 B v _ _ _ _ (H1.drewN _) h3 (by omega) (by omega) h2).mono ?_; rw [hv.out]; rintro e w' ⟨rfl, m2, rfl⟩) | (go_at_call 44; refine (rRefuse_c b 13 s _ F (H.drewN _)).mono ?_; rintro e w' ⟨rfl, H', S'⟩))
          refine bodyPost_ret (results_tmp rfl _ _ _) rfl ?_
          rw [hu.out]
          exact ⟨rfl, H', ((Str.refl w).drewN _).trans S'⟩
        · have t1 : ((k : Int) == 9) = false := by simp; omega
          have t3 : (0 : Int) < k := by omega
          have t4 : ((g : Int) == 0) = true := by simp; omega
          replace hk9 := Lib.hid hk9
          replace h9 := Lib.hid h9
          go_wp2_with (first | (go_at_call 20; refine (rLeft_c b s _ F (H.drewN _)).mono ?_; rintro e w' ⟨rfl, m1, rfl⟩) | (go_at_call 45; refine (peek_c b (p + 8 * k) 8 B v _ _ _ _ (H1.drewN _) h3 (by omega) (by omega) h2).mono ?_; rw [hv.out]; rintro e w' ⟨rfl, m2, rfl⟩) | (go_at_call 44; refine (rRefuse_c b 13 s _ F (H.drewN _)).mono ?_; rintro e w' ⟨rfl, H', S'⟩))
          refine bodyPost_ret (results_tmp rfl _ _ _) rfl ?_
          rw [hu.out]
          exact ⟨rfl, H', ((Str.refl w).drewN _).trans S'⟩
      · by_cases hg1 : 128 ≤ g
        · have hk9 : k ≠ 9 := by omega
          have hnext : varGo (s.L.drop (8 * (k + 1))) (k + 1) (x + g % 128 * 2 ^ (7 * k)) = varGo s.L 0 0 := by
            rw [← hgo.out, varGo_more hl8 (by rw [← hg]; exact hbad) (by rw [← hg]; exact hg1), List.drop_drop, ← hg]
            rfl
          have hnum := var_num x g k hx hk (by omega) hg256
          have hbnd := var_bound x g k hx
          replace hnext := Lib.hid hnext
          replace hnum := Lib.hid hnum
          replace hg := Lib.hid hg
          replace hbad := Lib.hid hbad
          replace hx := Lib.hid hx
          replace hbnd := Lib.hid hbnd
          have t1 : ((k : Int) == 9) = false := by simp; omega
          have t4 : ((g : Int) == 0) = false := by simp; omega
          have t5 : (128 : Int) ≤ g := by omega
          by_cases hk0 : (0 : Int) < k
          all_goals
            go_wp2_with (first | (go_at_call 20; refine (rLeft_c b s _ F (H.drewN _)).mono ?_; rintro e w' ⟨rfl, m1, rfl⟩) | (go_at_call 45; refine (peek_c b (p + 8 * k) 8 B v _ _ _ _ (H1.drewN _) h3 (by omega) (by omega) h2).mono ?_; rw [hv.out]; rintro e w' ⟨rfl, m2, rfl⟩) | (go_at_call 44; refine (rRefuse_c b 13 s _ F (H.drewN _)).mono ?_; rintro e w' ⟨rfl, H', S'⟩))
            go_step3
            rw [hnum.out]
            refine ⟨rfl, ⟨k + 1, _, _, _, _, _, _, _, _, _, _, _, _, _, _, _, _, _, _, _, _, _, _, _, _, _, _, _, _, _, _, _, _, _, _, _, _, _, _, _, _, _, _, _, _, _, _, _, rfl, by omega, by omega, hbnd.out, hnext.out, rfl⟩, by simp [intOf]; omega⟩
        · have hu : s.var = (x + g % 128 * 2 ^ (7 * k), ⟨s.L.drop (8 * (k + 1)), s.bad⟩) := by
            unfold Rs.var
            rw [if_neg (by simp [hb]), ← hgo.out, varGo_done hl8 (by rw [← hg]; exact hbad) (by rw [← hg]; exact hg1), List.drop_drop, ← hg]
            rfl
          have hnum := var_num x g k hx hk (by omega) hg256
          replace hnum := Lib.hid hnum
          replace hg := Lib.hid hg
          replace hu := Lib.hid hu
          replace hx := Lib.hid hx
          have t5 : ¬ (128 : Int) ≤ g := by omega
          have hcase : (k = 9 ∧ g = 1) ∨ (k ≠ 9 ∧ k = 0) ∨ (k ≠ 9 ∧ 0 < k ∧ g ≠ 0) := by omega
          clear hbad
          rcases hcase with ⟨hk9, h9⟩ | ⟨hk9, h9⟩ | ⟨hk9, hk0, h9⟩
          · have t1 : ((k : Int) == 9) = true := by simp; omega
            have t2 : ¬ (1 : Int) < g := by omega
            have t3 : (0 : Int) < k := by omega
            have t4 : ((g : Int) == 0) = false := by simp; omega
            replace hk9 := Lib.hid hk9
            replace h9 := Lib.hid h9
            go_wp2_with (first | (go_at_call 20; refine (rLeft_c b s _ F (H.drewN _)).mono ?_; rintro e w' ⟨rfl, m1, rfl⟩) | (go_at_call 45; refine (peek_c b (p + 8 * k) 8 B v _ _ _ _ (H1.drewN _) h3 (by omega) (by omega) h2).mono ?_; rw [hv.out]; rintro e w' ⟨rfl, m2, rfl⟩))
            refine bodyPost_ret (results_tmp rfl _ _ _) rfl ?_
            rw [hu.out]
            exact ⟨by simp only []; rw [hnum.out]; rfl, rS_shut (v := v) (B := B) (p := p + 8 * (k + 1)) (by omega) h2 h3 (by simp only []; rw [h4.out, List.drop_drop]) ((H1.drewN _).store 1 (.int .i64 (p + 8 * (k + 1) : Nat))), (((Str.refl w).drewN _).setCell _ _)⟩
          · have t1 : ((k : Int) == 9) = false := by simp; omega
            have t3 : ¬ (0 : Int) < k := by omega
            replace hk9 := Lib.hid hk9
            replace h9 := Lib.hid h9
            go_wp2_with (first | (go_at_call 20; refine (rLeft_c b s _ F (H.drewN _)).mono ?_; rintro e w' ⟨rfl, m1, rfl⟩) | (go_at_call 45; refine (peek_c b (p + 8 * k) 8 B v _ _ _ _ (H1.drewN _) h3 (by omega) (by omega) h2).mono ?_; rw [hv.out]; rintro e w' ⟨rfl, m2, rfl⟩))
            refine bodyPost_ret (results_tmp rfl _ _ _) rfl ?_
            rw [hu.out]
            exact ⟨by simp only []; rw [hnum.out]; rfl, rS_shut (v := v) (B := B) (p := p + 8 * (k + 1)) (by omega) h2 h3 (by simp only []; rw [h4.out, List.drop_drop]) ((H1.drewN _).store 1 (.int .i64 (p + 8 * (k + 1) : Nat))), (((Str.refl w).drewN _).setCell _ _)⟩
          · have t1 : ((k : Int) == 9) = false := by simp; omega
            have t3 : (0 : Int) < k := by omega
            have t4 : ((g : Int) == 0) = false := by simp; omega
            replace hk9 := Lib.hid hk9
            replace h9 := Lib.hid h9
            go_wp2_with (first | (go_at_call 20; refine (rLeft_c b s _ F (H.drewN _)).mono ?_; rintro e w' ⟨rfl, m1, rfl⟩) | (go_at_call 45; refine (peek_c b (p + 8 * k) 8 B v _ _ _ _ (H1.drewN _) h3 (by omega) (by omega) h2).mono ?_; rw [hv.out]; rintro e w' ⟨rfl, m2, rfl⟩))
            refine bodyPost_ret (results_tmp rfl _ _ _) rfl ?_
            rw [hu.out]
            exact ⟨by simp only []; rw [hnum.out]; rfl, rS_shut (v := v) (B := B) (p := p + 8 * (k + 1)) (by omega) h2 h3 (by simp only []; rw [h4.out, List.drop_drop]) ((H1.drewN _).store 1 (.int .i64 (p + 8 * (k + 1) : Nat))), (((Str.refl w).drewN _).setCell _ _)⟩
  · intro hpass
    go_wp2_with fail
    go_step3
    go_step
    go_step
    exact hpass _ _ ⟨0, 0, 0, _, _, _, _, _, _, _, _, _, _, _, _, _, _, _, _, _, _, _, _, _, _, _, _, _, _, _, _, _, _, _, _, _, _, _, _, _, _, _, _, _, _, _, _, _, rfl, by omega, by omega, by decide, by simp, rfl⟩

set_option maxRecDepth 100000 in
theorem rVar_c (b : Nat) (s : Rs) (w : World) (F : List HProp) (H : Holds w (rS b s :: F)) :
    Calls Try.prog 39 #[.pointer (some ⟨b, 0, none⟩)] w (Ret w (.int .u64 (s.var.1 : Nat)) (rS b s.var.2 :: F)) := by
  by_cases hb : s.bad = 0
  · exact rVar_ok b s w F H hb
  · have c2 := bad_cell H
    have hb' := ne_bad hb
    have hu : s.var = (0, s) := by unfold Rs.var; rw [if_pos hb]
    replace hu := Lib.hid hu
    go_enter Try.func39, Try.ntmps39
    go_wp2_with fail
    refine wp_scope_straight ?_
    go_wp2_with fail
    rw [Exit.noGoto_ret]
    refine bodyPost_ret (results_tmp rfl _ _ _) rfl ?_
    rw [hu.out]
    exact ⟨rfl, H, Str.refl w⟩

end Go.Proofs.Ytngnfdlkkedaaaa
