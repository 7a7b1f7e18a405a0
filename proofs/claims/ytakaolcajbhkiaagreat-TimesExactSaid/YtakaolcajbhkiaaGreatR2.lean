/- The document's writer of bits: Bits, Unary, Var, Zig. -/
import Derived.Test.YtakaolcajbhkiaaGreatR1
import Derived.ScopeJumps
namespace Go.Proofs.YtakaolcajbhkiaaGreat
open Go.RowKit Go.SL Go.Fm
set_option linter.unusedVariables false
set_option linter.unusedSimpArgs false

theorem rcast_bit (a j : Nat) : (((a : Int) / 2 ^ j).tmod 2) = ((a.testBit j).toNat : Nat) := by
  have : ((a : Int) / 2 ^ j) = ((a / 2 ^ j : Nat) : Int) := by simp
  rw [this, Int.tmod_eq_emod_of_nonneg (Int.natCast_nonneg _), Nat.testBit_eq_decide_div_mod_eq]
  generalize a / 2 ^ j = z
  rcases Nat.mod_two_eq_zero_or_one z with h | h
  · rw [h]; simp; omega
  · rw [h]; simp; omega

theorem wide_shift (X n : Nat) (h0 : 0 < n) (_h : n < 64) : ((X : Int) / 2 / 2 ^ (n - 1) != 0) = decide (2 ^ n ≤ X) := by
  have e : (X : Int) / 2 / 2 ^ (n - 1) = ((X / 2 ^ n : Nat) : Int) := by
    obtain ⟨m, rfl⟩ : ∃ m, n = m + 1 := ⟨n - 1, by omega⟩
    rw [Nat.add_sub_cancel, Nat.pow_succ, Nat.mul_comm, ← Nat.div_div_eq_div_mul]
    simp
  rw [e]
  by_cases h : 2 ^ n ≤ X
  · have := Nat.div_pos h (Nat.two_pow_pos n)
    rw [decide_eq_true h]
    simp only [bne_iff_ne, ne_eq]
    omega
  · rw [Nat.div_eq_of_lt (by omega), decide_eq_false h]
    rfl

set_option maxRecDepth 100000 in
theorem rwBits_ok (b X n : Nat) (s : Ws) (w : World) (F : List HProp) (H : Holds w (fS b s :: F)) (hX : X < 18446744073709551616) (hn : n ≤ 64) (hw : ¬ wide X n = true) (hL : s.L.length ≤ 10000000000) :
    Calls Tryz.prog 33 #[.pointer (some ⟨b, 0, none⟩), .int .u64 X, .int .i64 n] w (Ret w (.tuple #[]) (fS b (s.put (bitsOf X n)) :: F)) := by
  have hd : ¬ 2 ^ n ≤ X := by
    intro h
    apply hw
    simp [wide, h]
  have hcase : n = 0 ∨ (0 < n ∧ n < 64) ∨ n = 64 := by omega
  have hs : 0 < n → n < 64 → ((X : Int) / 2 / 2 ^ (n - 1) != 0) = false := fun h0 h1 => by
    have hs := wide_shift X n h0 h1
    rwa [decide_eq_false hd] at hs
  have hX0 : n = 0 → X = 0 := by
    rintro rfl
    simp at hd
    exact hd
  replace hd := Lib.hid hd
  rcases hcase with h0 | h0 | h0
  · subst h0
    obtain rfl := hX0 rfl
    rw [show bitsOf 0 0 = [] from rfl, put_nil]
    go_enter Tryz.func33, Tryz.ntmps33
    go_wp2
    refine wp_loop_rounds 1 ?_
    rw [rounds_succ]
    go_wp2
    go_end0
    exact ⟨rfl, H, Str.refl w⟩
  · obtain ⟨h0, h1⟩ := h0
    have hs := hs h0 h1
    clear hX0
    go_enter Tryz.func33, Tryz.ntmps33
    go_wp2
    go_loopw [6] (fun s6 wi => ∃ (j : Nat) (M : List Bool), j ≤ n ∧ s6 = .int .i64 ((j : Int) - 1) ∧ M ++ bitsOf X j = bitsOf X n ∧ Holds wi (fS b (s.put M) :: F) ∧ Str w wi) (fun s6 _ => (intOf s6 + 1).toNat)
    case atStart => exact ⟨n, [], Nat.le_refl _, by first | rfl | (congr 1; omega), rfl, by rw [put_nil]; exact H, Str.refl w⟩
    case round =>
      obtain ⟨j, M, hj, rfl, hM, H5, S5⟩ := hrel
      replace hM := Lib.hid hM
      cases j with
      | zero =>
        have hM := hM.out
        rw [show bitsOf X 0 = [] from rfl, List.append_nil] at hM
        rw [hM] at H5
        replace hM := Lib.hid hM
        go_wp2_with fail
        go_end0
        exact ⟨rfl, H5, S5⟩
      | succ j =>
        have hMl : M.length ≤ 64 := by
          have := congrArg List.length hM.out
          rw [List.length_append, length_bitsOf, length_bitsOf] at this
          omega
        have hpl := put_len s M
        have hb : ((Nat.testBit X j).toNat : Int) < 256 := by
          have := Bool.toNat_lt (Nat.testBit X j)
          omega
        go_wp2_with fail
        rw [rcast_bit, Int.emod_eq_of_lt (Int.natCast_nonneg _) hb]
        refine (rwPut_c _ _ _ _ _ H5 (by omega)).mono ?_
        rw [put_put]
        rintro e w1 ⟨rfl, H6, S6⟩
        go_wp2_with fail
        go_roundw
        case rel => exact ⟨j, M ++ [X.testBit j], by omega, by first | rfl | (congr 1; omega), by rw [List.append_assoc]; exact hM.out, H6, S5.trans S6⟩
        case measure => simp [intOf]
  · subst h0
    rw [show ((64 : Nat) : Int) = 64 from rfl]
    clear hs hX0
    go_enter Tryz.func33, Tryz.ntmps33
    go_wp2
    go_loopw [6] (fun s6 wi => ∃ (j : Nat) (M : List Bool), j ≤ 64 ∧ s6 = .int .i64 ((j : Int) - 1) ∧ M ++ bitsOf X j = bitsOf X 64 ∧ Holds wi (fS b (s.put M) :: F) ∧ Str w wi) (fun s6 _ => (intOf s6 + 1).toNat)
    case atStart => exact ⟨64, [], Nat.le_refl _, by first | rfl | (congr 1; omega), rfl, by rw [put_nil]; exact H, Str.refl w⟩
    case round =>
      obtain ⟨j, M, hj, rfl, hM, H5, S5⟩ := hrel
      replace hM := Lib.hid hM
      cases j with
      | zero =>
        have hM := hM.out
        rw [show bitsOf X 0 = [] from rfl, List.append_nil] at hM
        rw [hM] at H5
        replace hM := Lib.hid hM
        go_wp2_with fail
        go_end0
        exact ⟨rfl, H5, S5⟩
      | succ j =>
        have hMl : M.length ≤ 64 := by
          have := congrArg List.length hM.out
          rw [List.length_append, length_bitsOf, length_bitsOf] at this
          omega
        have hpl := put_len s M
        have hb : ((Nat.testBit X j).toNat : Int) < 256 := by
          have := Bool.toNat_lt (Nat.testBit X j)
          omega
        go_wp2_with fail
        rw [rcast_bit, Int.emod_eq_of_lt (Int.natCast_nonneg _) hb]
        refine (rwPut_c _ _ _ _ _ H5 (by omega)).mono ?_
        rw [put_put]
        rintro e w1 ⟨rfl, H6, S6⟩
        go_wp2_with fail
        go_roundw
        case rel => exact ⟨j, M ++ [X.testBit j], by omega, by first | rfl | (congr 1; omega), by rw [List.append_assoc]; exact hM.out, H6, S5.trans S6⟩
        case measure => simp [intOf]

set_option maxRecDepth 100000 in
theorem rwBits_c (b X : Nat) (n : Int) (s : Ws) (w : World) (F : List HProp) (H : Holds w (fS b s :: F)) (hX : X < 18446744073709551616) (hL : s.L.length ≤ 10000000000) :
    Calls Tryz.prog 33 #[.pointer (some ⟨b, 0, none⟩), .int .u64 X, .int .i64 n] w (Ret w (.tuple #[]) (fS b (s.bits X n) :: F)) := by
  by_cases hw : wide X n = true
  · have hr := rwRefuse_c b 10 s w F H
    unfold Ws.bits
    rw [if_pos hw]
    have hcase : n < 0 ∨ 64 < n ∨ (n = 0 ∧ 1 ≤ X) ∨ (0 < n ∧ n < 64 ∧ 2 ^ n.toNat ≤ X) := by
      simp [wide] at hw
      rcases hw with (h | h) | h
      · omega
      · omega
      · by_cases h0 : n < 0
        · omega
        · by_cases h64 : 64 < n
          · omega
          · by_cases hz : n = 0
            · subst hz; simp at h; omega
            · by_cases h3 : n = 64
              · subst h3
                exfalso
                have : (2 : Nat) ^ (64 : Int).toNat = 18446744073709551616 := by decide
                omega
              · exact .inr (.inr (.inr ⟨by omega, by omega, h⟩))
    clear hw
    rcases hcase with h | h | ⟨rfl, h⟩ | ⟨h0, h1, h⟩
    · go_enter Tryz.func33, Tryz.ntmps33
      go_wp2_with (go_at_call 83; refine hr.mono ?_; rintro e w' ⟨rfl, H', S'⟩)
      all_goals (refine bodyPost_ret (results_none rfl _ _ _) rfl ⟨rfl, H', S'⟩)
    · go_enter Tryz.func33, Tryz.ntmps33
      go_wp2_with (go_at_call 83; refine hr.mono ?_; rintro e w' ⟨rfl, H', S'⟩)
      all_goals (refine bodyPost_ret (results_none rfl _ _ _) rfl ⟨rfl, H', S'⟩)
    · have hx0 : ((X : Int) != 0) = true := by simp; omega
      go_enter Tryz.func33, Tryz.ntmps33
      go_wp2_with (go_at_call 83; refine hr.mono ?_; rintro e w' ⟨rfl, H', S'⟩)
      all_goals (refine bodyPost_ret (results_none rfl _ _ _) rfl ⟨rfl, H', S'⟩)
    · obtain ⟨m, rfl⟩ := Int.eq_ofNat_of_zero_le (Int.le_of_lt h0)
      rw [Int.toNat_natCast] at h
      have hs := wide_shift X m (by omega) (by omega)
      rw [decide_eq_true h] at hs
      clear h
      go_enter Tryz.func33, Tryz.ntmps33
      go_wp2_with (go_at_call 83; refine hr.mono ?_; rintro e w' ⟨rfl, H', S'⟩)
      all_goals (refine bodyPost_ret (results_none rfl _ _ _) rfl ⟨rfl, H', S'⟩)
  · unfold Ws.bits
    rw [if_neg hw]
    have h1 : 0 ≤ n ∧ n ≤ 64 := by
      simp [wide] at hw
      omega
    obtain ⟨m, rfl⟩ := Int.eq_ofNat_of_zero_le h1.1
    exact rwBits_ok b X m s w F H hX (by omega) hw hL

theorem not_wide_group (Y : Nat) : ¬ wide (128 + Y % 128) 8 = true := by
  have h8 : (2 : Nat) ^ (8 : Int).toNat = 256 := by decide
  unfold wide
  rw [h8, decide_eq_false (by decide), decide_eq_false (by decide), decide_eq_false (by omega)]
  decide
theorem not_wide_last (Y : Nat) (h : Y < 128) : ¬ wide Y 8 = true := by
  have h8 : (2 : Nat) ^ (8 : Int).toNat = 256 := by decide
  unfold wide
  rw [h8, decide_eq_false (by decide), decide_eq_false (by decide), decide_eq_false (by omega)]
  decide

set_option maxRecDepth 100000 in
theorem Zigzag_c (x : Int) (w : World) (h : -9223372036854775808 ≤ x) (h' : x ≤ 9223372036854775807) : Calls Tryz.prog 35 #[.int .i64 x] w (fun e w' => e = .returned (.int .u64 (zigzag x : Nat)) ∧ w' = w) := by
  unfold zigzag
  by_cases hx : x < 0
  · rw [if_pos hx]
    go_enter Tryz.func35, Tryz.ntmps35
    go_wp2
    go_ret
    refine ⟨ret_int ?_, rfl⟩
    omega
  · rw [if_neg hx]
    go_enter Tryz.func35, Tryz.ntmps35
    go_wp2
    go_ret
    refine ⟨ret_int ?_, rfl⟩
    omega

end Go.Proofs.YtakaolcajbhkiaaGreat
