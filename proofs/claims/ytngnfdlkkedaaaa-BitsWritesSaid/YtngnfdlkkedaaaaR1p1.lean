/- The document's writer of bits: what each of its methods does. The document's writer of bits: Bits, Unary, Var, Zig. -/
import Derived.Test.YtngnfdlkkedaaaaR1
import Derived.Test.YtngnfdlkkedaaaaBits4
import Derived.Test.YtngnfdlkkedaaaaR2
import Derived.ScopeJumps
namespace Go.Proofs.Ytngnfdlkkedaaaa.P1
open Go.RowKit Go.SL Go.Fm
set_option linter.unusedVariables false
set_option linter.unusedSimpArgs false

/-- The document's writer, by its state. -/
def fS (r0 r1 : Value) (b : Nat) (s : Ws) : HProp := fun h => ∃ v, sep (pts b (.cells #[r0, r1, v, .int .i64 (s.bad : Nat)] 52 (0, 0))) (own 5 1 v s.L.length (bv (nums s.L))) h
variable {r0 r1 : Value}
theorem fS_open {b : Nat} {s : Ws} {w : World} {F : List HProp} (h : Holds w (fS r0 r1 b s :: F)) :
    ∃ v, Holds w (pts b (.cells #[r0, r1, v, .int .i64 (s.bad : Nat)] 52 (0, 0)) :: own 5 1 v s.L.length (bv (nums s.L)) :: F) := by
  obtain ⟨v, h⟩ := Holds.elim h
  exact ⟨v, h.split⟩
theorem fS_shut {b : Nat} {s : Ws} {w : World} {F : List HProp} {v : Value} {L : List Bool} {bad : Nat} (hL : s.L = L) (hb : s.bad = bad)
    (h : Holds w (pts b (.cells #[r0, r1, v, .int .i64 (bad : Nat)] 52 (0, 0)) :: own 5 1 v L.length (bv (nums L)) :: F)) : Holds w (fS r0 r1 b s :: F) := by
  subst hL hb
  exact h.unsplit.mono fun _ hx => ⟨v, hx⟩
set_option maxRecDepth 100000 in
theorem rwPut_c (b : Nat) (x : Bool) (s : Ws) (w : World) (F : List HProp) (H : Holds w (fS r0 r1 b s :: F)) (hL : s.L.length ≤ 1000000000000) :
    Calls Try.prog 64 #[.pointer (some ⟨b, 2, none⟩), .int .u8 (x.toNat : Nat)] w (Ret w (.tuple #[]) (fS r0 r1 b (s.put [x]) :: F)) := by
  obtain ⟨i0, hi, hz0, hz1, hz2⟩ := info_parts info_u8
  obtain ⟨v, H1⟩ := fS_open H
  have c0 := H1.cell 2
  have c1 := H1.cell 3
  have z0 := H1.free 2
  simp at c0 c1
  unfold Ws.put
  by_cases hb : s.bad = 0
  · rw [if_pos hb]
    rw [hb] at c1
    go_enter Try.func64, Try.ntmps64
    go_wp2_with (at_builtin; refine wpList_append_sl rfl _ _ _ rfl i0 (.int .u8 0) Try.underlying25 hi hz0 hz1 hz2 rfl (by decide) rfl (x := .slice (some ⟨w.heap.size, 0, none⟩) 1 1) rfl (H1.swap.alloc' _) (m := 1) (news := [.int .u8 (x.toNat : Nat)]) (slice_new w _ _ _ 1 1 rfl (by decide)) (by simp [Value.oneCell']) (by omega) (by unfold maxLen; omega) ?_; intro v1 w1 H2 S1; obtain ⟨a1, k1, rfl⟩ := own_shape H2; have d0 := H2.swap.cell 2; have e0 := H2.swap.free 2; simp at d0)
    go_end0
    refine ⟨rfl, ?_, ((Str.refl w).alloc _).trans S1 |>.setCell _ _⟩
    refine fS_shut (v := .slice a1 (s.L.length + 1) k1) rfl rfl ?_
    have H3 := H2.swap.store 2 (.slice a1 (s.L.length + 1) k1)
    rw [List.length_append, nums_append, bv_append]
    exact H3
  · rw [if_neg hb]
    have hb' : ((s.bad : Int) == 0) = false := by simp; omega
    go_enter Try.func64, Try.ntmps64
    go_wp2
    go_end0
    exact ⟨rfl, H, Str.refl w⟩

set_option maxRecDepth 100000 in
theorem rwRefuse_c (b : Nat) (e : Nat) (s : Ws) (w : World) (F : List HProp) (H : Holds w (fS r0 r1 b s :: F)) :
    Calls Try.prog 65 #[.pointer (some ⟨b, 2, none⟩), .int .i64 e] w (Ret w (.tuple #[]) (fS r0 r1 b (s.refuse e) :: F)) := by
  obtain ⟨v, H1⟩ := fS_open H
  have c1 := H1.cell 3
  have z1 := H1.free 3
  simp at c1
  unfold Ws.refuse
  by_cases hb : s.bad = 0
  · rw [if_pos hb]
    rw [hb] at c1
    go_enter Try.func65, Try.ntmps65
    go_wp2
    go_end0
    exact ⟨rfl, fS_shut rfl rfl (H1.store 3 _), (Str.refl w).setCell _ _⟩
  · rw [if_neg hb]
    have hb' : ((s.bad : Int) == 0) = false := by simp; omega
    go_enter Try.func65, Try.ntmps65
    go_wp2
    go_end0
    exact ⟨rfl, H, Str.refl w⟩

set_option maxRecDepth 100000 in
theorem rwBit_c (b : Nat) (v : Bool) (s : Ws) (w : World) (F : List HProp) (H : Holds w (fS r0 r1 b s :: F)) (hL : s.L.length ≤ 100000000000) :
    Calls Try.prog 46 #[.pointer (some ⟨b, 2, none⟩), .bool v] w (Ret w (.tuple #[]) (fS r0 r1 b (s.bit v) :: F)) := by
  have h1 := rwPut_c b true s w F H (by omega)
  have h0 := rwPut_c b false s w F H (by omega)
  cases v
  · go_enter Try.func46, Try.ntmps46
    go_wp2_with (go_at_call 64; refine h0.mono ?_; rintro e w' ⟨rfl, H', S'⟩)
    go_end0
    exact ⟨rfl, H', S'⟩
  · go_enter Try.func46, Try.ntmps46
    go_wp2_with (go_at_call 64; refine h1.mono ?_; rintro e w' ⟨rfl, H', S'⟩)
    refine bodyPost_ret (results_none rfl _ _ _) rfl ⟨rfl, H', S'⟩
end Go.Proofs.Ytngnfdlkkedaaaa.P1

namespace Go.Proofs.Ytngnfdlkkedaaaa.P1
open Go.RowKit Go.SL Go.Fm
set_option linter.unusedVariables false
set_option linter.unusedSimpArgs false

theorem rcast_bit (a j : Nat) : (((a : Int) / 2 ^ j).tmod 2) = ((a.testBit j).toNat : Nat) := by
  have : ((a : Int) / 2 ^ j) = ((a / 2 ^ j : Nat) : Int) := by simp
  rw [this, Int.tmod_eq_emod_of_nonneg (Int.natCast_nonneg _), Nat.testBit_eq_decide_div_mod_eq]
  generalize a / 2 ^ j = z
  rcases Nat.mod_two_eq_zero_or_one z with h | h
  · rw [h]; simp; omega
  · rw [h]; simp; omega

theorem wide_shift (X n : Nat) (h0 : 0 < n) (_h : n < 64) : ((X : Int) / 2 / 2 ^ (n - 1) != 0) = decide (2 ^ n ≤ X) := by
  have e : (X : Int) / 2 / 2 ^ (n - 1) = ((X / 2 ^ n : Nat) : Int) := by
    obtain ⟨m, rfl⟩ : ∃ m, n = m + 1 := ⟨n - 1, by omega⟩
    rw [Nat.add_sub_cancel, Nat.pow_succ, Nat.mul_comm, ← Nat.div_div_eq_div_mul]
    simp
  rw [e]
  by_cases h : 2 ^ n ≤ X
  · have := Nat.div_pos h (Nat.two_pow_pos n)
    rw [decide_eq_true h]
    simp only [bne_iff_ne, ne_eq]
    omega
  · rw [Nat.div_eq_of_lt (by omega), decide_eq_false h]
    rfl

variable {r0 r1 : Value}
set_option maxRecDepth 100000 in
theorem rwBits_ok (b X n : Nat) (s : Ws) (w : World) (F : List HProp) (H : Holds w (fS r0 r1 b s :: F)) (hX : X < 18446744073709551616) (hn : n ≤ 64) (hw : ¬ wide X n = true) (hL : s.L.length ≤ 10000000000) :
    Calls Try.prog 47 #[.pointer (some ⟨b, 2, none⟩), .int .u64 X, .int .i64 n] w (Ret w (.tuple #[]) (fS r0 r1 b (s.put (bitsOf X n)) :: F)) := by
  have hd : ¬ 2 ^ n ≤ X := by
    intro h
    apply hw
    simp [wide, h]
  have hcase : n = 0 ∨ (0 < n ∧ n < 64) ∨ n = 64 := by omega
  have hs : 0 < n → n < 64 → ((X : Int) / 2 / 2 ^ (n - 1) != 0) = false := fun h0 h1 => by
    have hs := wide_shift X n h0 h1
    rwa [decide_eq_false hd] at hs
  have hX0 : n = 0 → X = 0 := by
    rintro rfl
    simp at hd
    exact hd
  replace hd := Lib.hid hd
  rcases hcase with h0 | h0 | h0
  · subst h0
    obtain rfl := hX0 rfl
    rw [show bitsOf 0 0 = [] from rfl, put_nil]
    go_enter Try.func47, Try.ntmps47
    go_wp2
    refine wp_loop_rounds 1 ?_
    rw [rounds_succ]
    go_wp2
    go_end0
    exact ⟨rfl, H, Str.refl w⟩
  · obtain ⟨h0, h1⟩ := h0
    have hs := hs h0 h1
    clear hX0
    go_enter Try.func47, Try.ntmps47
    go_wp2
    go_loopw [6] (fun s6 wi => ∃ (j : Nat) (M : List Bool), j ≤ n ∧ s6 = .int .i64 ((j : Int) - 1) ∧ M ++ bitsOf X j = bitsOf X n ∧ Holds wi (fS r0 r1 b (s.put M) :: F) ∧ Str w wi) (fun s6 _ => (intOf s6 + 1).toNat)
    case atStart => exact ⟨n, [], Nat.le_refl _, by first | rfl | (congr 1; omega), rfl, by rw [put_nil]; exact H, Str.refl w⟩
    case round =>
      obtain ⟨j, M, hj, rfl, hM, H5, S5⟩ := hrel
      replace hM := Lib.hid hM
      cases j with
      | zero =>
        have hM := hM.out
        rw [show bitsOf X 0 = [] from rfl, List.append_nil] at hM
        rw [hM] at H5
        replace hM := Lib.hid hM
        go_wp2_with fail
        go_end0
        exact ⟨rfl, H5, S5⟩
      | succ j =>
        have hMl : M.length ≤ 64 := by
          have := congrArg List.length hM.out
          rw [List.length_append, length_bitsOf, length_bitsOf] at this
          omega
        have hpl := put_len s M
        have hb : ((Nat.testBit X j).toNat : Int) < 256 := by
          have := Bool.toNat_lt (Nat.testBit X j)
          omega
        go_wp2_with fail
        rw [rcast_bit, Int.emod_eq_of_lt (Int.natCast_nonneg _) hb]
        refine (rwPut_c _ _ _ _ _ H5 (by omega)).mono ?_
        rw [put_put]
        rintro e w1 ⟨rfl, H6, S6⟩
        go_wp2_with fail
        go_roundw
        case rel => exact ⟨j, M ++ [X.testBit j], by omega, by first | rfl | (congr 1; omega), by rw [List.append_assoc]; exact hM.out, H6, S5.trans S6⟩
        case measure => simp [intOf]
  · subst h0
    rw [show ((64 : Nat) : Int) = 64 from rfl]
    clear hs hX0
    go_enter Try.func47, Try.ntmps47
    go_wp2
    go_loopw [6] (fun s6 wi => ∃ (j : Nat) (M : List Bool), j ≤ 64 ∧ s6 = .int .i64 ((j : Int) - 1) ∧ M ++ bitsOf X j = bitsOf X 64 ∧ Holds wi (fS r0 r1 b (s.put M) :: F) ∧ Str w wi) (fun s6 _ => (intOf s6 + 1).toNat)
    case atStart => exact ⟨64, [], Nat.le_refl _, by first | rfl | (congr 1; omega), rfl, by rw [put_nil]; exact H, Str.refl w⟩
    case round =>
      obtain ⟨j, M, hj, rfl, hM, H5, S5⟩ := hrel
      replace hM := Lib.hid hM
      cases j with
      | zero =>
        have hM := hM.out
        rw [show bitsOf X 0 = [] from rfl, List.append_nil] at hM
        rw [hM] at H5
        replace hM := Lib.hid hM
        go_wp2_with fail
        go_end0
        exact ⟨rfl, H5, S5⟩
      | succ j =>
        have hMl : M.length ≤ 64 := by
          have := congrArg List.length hM.out
          rw [List.length_append, length_bitsOf, length_bitsOf] at this
          omega
        have hpl := put_len s M
        have hb : ((Nat.testBit X j).toNat : Int) < 256 := by
          have := Bool.toNat_lt (Nat.testBit X j)
          omega
        go_wp2_with fail
        rw [rcast_bit, Int.emod_eq_of_lt (Int.natCast_nonneg _) hb]
        refine (rwPut_c _ _ _ _ _ H5 (by omega)).mono ?_
        rw [put_put]
        rintro e w1 ⟨rfl, H6, S6⟩
        go_wp2_with fail
        go_roundw
        case rel => exact ⟨j, M ++ [X.testBit j], by omega, by first | rfl | (congr 1; omega), by rw [List.append_assoc]; exact hM.out, H6, S5.trans S6⟩
        case measure => simp [intOf]

set_option maxRecDepth 100000 in
theorem rwBits_c (b X : Nat) (n : Int) (s : Ws) (w : World) (F : List HProp) (H : Holds w (fS r0 r1 b s :: F)) (hX : X < 18446744073709551616) (hL : s.L.length ≤ 10000000000) :
    Calls Try.prog 47 #[.pointer (some ⟨b, 2, none⟩), .int .u64 X, .int .i64 n] w (Ret w (.tuple #[]) (fS r0 r1 b (s.bits X n) :: F)) := by
  by_cases hw : wide X n = true
  · have hr := rwRefuse_c b 10 s w F H
    unfold Ws.bits
    rw [if_pos hw]
    have hcase : n < 0 ∨ 64 < n ∨ (n = 0 ∧ 1 ≤ X) ∨ (0 < n ∧ n < 64 ∧ 2 ^ n.toNat ≤ X) := by
      simp [wide] at hw
      rcases hw with (h | h) | h
      · omega
      · omega
      · by_cases h0 : n < 0
        · omega
        · by_cases h64 : 64 < n
          · omega
          · by_cases hz : n = 0
            · subst hz; simp at h; omega
            · by_cases h3 : n = 64
              · subst h3
                exfalso
                have : (2 : Nat) ^ (64 : Int).toNat = 18446744073709551616 := by decide
                omega
              · exact .inr (.inr (.inr ⟨by omega, by omega, h⟩))
    clear hw
    rcases hcase with h | h | ⟨rfl, h⟩ | ⟨h0, h1, h⟩
    · go_enter Try.func47, Try.ntmps47
      go_wp2_with (go_at_call 65; refine hr.mono ?_; rintro e w' ⟨rfl, H', S'⟩)
      all_goals (refine bodyPost_ret (results_none rfl _ _ _) rfl ⟨rfl, H', S'⟩)
    · go_enter Try.func47, Try.ntmps47
      go_wp2_with (go_at_call 65; refine hr.mono ?_; rintro e w' ⟨rfl, H', S'⟩)
      all_goals (refine bodyPost_ret (results_none rfl _ _ _) rfl ⟨rfl, H', S'⟩)
    · have hx0 : ((X : Int) != 0) = true := by simp; omega
      go_enter Try.func47, Try.ntmps47
      go_wp2_with (go_at_call 65; refine hr.mono ?_; rintro e w' ⟨rfl, H', S'⟩)
      all_goals (refine bodyPost_ret (results_none rfl _ _ _) rfl ⟨rfl, H', S'⟩)
    · obtain ⟨m, rfl⟩ := Int.eq_ofNat_of_zero_le (Int.le_of_lt h0)
      rw [Int.toNat_natCast] at h
      have hs := wide_shift X m (by omega) (by omega)
      rw [decide_eq_true h] at hs
      clear h
      go_enter Try.func47, Try.ntmps47
      go_wp2_with (go_at_call 65; refine hr.mono ?_; rintro e w' ⟨rfl, H', S'⟩)
      all_goals (refine bodyPost_ret (results_none rfl _ _ _) rfl ⟨rfl, H', S'⟩)
  · unfold Ws.bits
    rw [if_neg hw]
    have h1 : 0 ≤ n ∧ n ≤ 64 := by
      simp [wide] at hw
      omega
    obtain ⟨m, rfl⟩ := Int.eq_ofNat_of_zero_le h1.1
    exact rwBits_ok b X m s w F H hX (by omega) hw hL

set_option maxRecDepth 100000 in
theorem rwUnary_c (b : Nat) (n : Int) (s : Ws) (w : World) (F : List HProp) (H : Holds w (fS r0 r1 b s :: F)) (hL : s.L.length ≤ 10000000000) :
    Calls Try.prog 48 #[.pointer (some ⟨b, 2, none⟩), .int .i64 n] w (Ret w (.tuple #[]) (fS r0 r1 b (s.unary n) :: F)) := by
  unfold Ws.unary
  by_cases hw : n < 0 ∨ 64 < n
  · rw [if_pos hw]
    have hr := rwRefuse_c b 11 s w F H
    rcases hw with h | h
    · go_enter Try.func48, Try.ntmps48
      go_wp2_with (go_at_call 65; refine hr.mono ?_; rintro e w' ⟨rfl, H', S'⟩)
      all_goals (refine bodyPost_ret (results_none rfl _ _ _) rfl ⟨rfl, H', S'⟩)
    · go_enter Try.func48, Try.ntmps48
      go_wp2_with (go_at_call 65; refine hr.mono ?_; rintro e w' ⟨rfl, H', S'⟩)
      all_goals (refine bodyPost_ret (results_none rfl _ _ _) rfl ⟨rfl, H', S'⟩)
  · rw [if_neg hw]
    obtain ⟨m, rfl⟩ := Int.eq_ofNat_of_zero_le (show 0 ≤ n by omega)
    rw [Int.toNat_natCast]
    go_enter Try.func48, Try.ntmps48
    go_wp2
    go_loopw [4] (fun s4 wi => ∃ (j : Nat), j ≤ m ∧ s4 = .int .i64 j ∧ Holds wi (fS r0 r1 b (s.put (List.replicate j true)) :: F) ∧ Str w wi) (fun s4 _ => (m - intOf s4).toNat)
    case atStart => exact ⟨0, by omega, rfl, by rw [List.replicate_zero, put_nil]; exact H, Str.refl w⟩
    case round =>
      obtain ⟨j, hj, rfl, H5, S5⟩ := hrel
      have hpl := put_len s (List.replicate j true)
      rw [List.length_replicate] at hpl
      by_cases hjm : j < m
      · have hp := rwPut_c _ true _ _ _ H5 (by omega)
        rw [put_put, show List.replicate j true ++ [true] = List.replicate (j + 1) true from List.replicate_succ'.symm] at hp
        go_wp2_with (go_at_call 64; refine hp.mono ?_; rintro e w' ⟨rfl, H', S'⟩)
        go_roundw
        case rel => exact ⟨j + 1, by omega, by congr 1, H', S5.trans S'⟩
        case measure => simp [intOf]; omega
      · obtain rfl : j = m := by omega
        have hp := rwPut_c _ false _ _ _ H5 (by omega)
        rw [put_put] at hp
        go_wp2_with (go_at_call 64; refine hp.mono ?_; rintro e w' ⟨rfl, H', S'⟩)
        go_end0
        exact ⟨rfl, H', S5.trans S'⟩

theorem not_wide_group (Y : Nat) : ¬ wide (128 + Y % 128) 8 = true := by
  have h8 : (2 : Nat) ^ (8 : Int).toNat = 256 := by decide
  unfold wide
  rw [h8, decide_eq_false (by decide), decide_eq_false (by decide), decide_eq_false (by omega)]
  decide
theorem not_wide_last (Y : Nat) (h : Y < 128) : ¬ wide Y 8 = true := by
  have h8 : (2 : Nat) ^ (8 : Int).toNat = 256 := by decide
  unfold wide
  rw [h8, decide_eq_false (by decide), decide_eq_false (by decide), decide_eq_false (by omega)]
  decide

set_option maxRecDepth 100000 in
theorem rwVar_c (b : Nat) (X : Nat) (s : Ws) (w : World) (F : List HProp) (H : Holds w (fS r0 r1 b s :: F)) (hX : X < 18446744073709551616) (hL : s.L.length ≤ 1000000000) :
    Calls Try.prog 49 #[.pointer (some ⟨b, 2, none⟩), .int .u64 X] w (Ret w (.tuple #[]) (fS r0 r1 b (s.var X) :: F)) := by
  unfold Ws.var
  have hvl := (length_varBits64 X hX).2.2
  go_enter Try.func49, Try.ntmps49
  go_wp2
  go_loopw [1] (fun s1 wi => ∃ (Y : Nat) (M : List Bool), Y ≤ X ∧ s1 = .int .u64 Y ∧ M ++ varBits Y = varBits X ∧ Holds wi (fS r0 r1 b (s.put M) :: F) ∧ Str w wi) (fun s1 _ => (intOf s1).toNat)
  case atStart => exact ⟨X, [], Nat.le_refl _, rfl, rfl, by rw [put_nil]; exact H, Str.refl w⟩
  case round =>
    obtain ⟨Y, M, hY, rfl, hM, H5, S5⟩ := hrel
    replace hM := Lib.hid hM
    have hMl : M.length ≤ 80 := by
      have := congrArg List.length hM.out
      rw [List.length_append] at this
      omega
    have hpl := put_len s M
    by_cases hY8 : Y < 128
    · have hp := rwBits_c _ Y 8 _ _ _ H5 (by omega) (by omega)
      have hw := not_wide_last Y hY8
      unfold Ws.bits at hp
      rw [if_neg hw, put_put, show ((8 : Int).toNat) = 8 from rfl, ← varBits_lt Y hY8, hM.out] at hp
      clear hw
      go_wp2_with (go_at_call 47; refine hp.mono ?_; rintro e w' ⟨rfl, H', S'⟩)
      go_end0
      exact ⟨rfl, H', S5.trans S'⟩
    · have hp := rwBits_c _ (128 + Y % 128) 8 _ _ _ H5 (by omega) (by omega)
      have hw := not_wide_group Y
      unfold Ws.bits at hp
      rw [if_neg hw, put_put, show ((8 : Int).toNat) = 8 from rfl] at hp
      clear hw
      have hge := varBits_ge Y hY8
      replace hge := Lib.hid hge
      have e1 : (128 + (Y : Int) % 128) = ((128 + Y % 128 : Nat) : Int) := by omega
      replace hp := Lib.hid hp
      replace e1 := Lib.hid e1
      have hYX : Y < 18446744073709551616 := by omega
      replace hY := Lib.hid hY
      clear hpl hMl hL hvl hX
      go_wp2_with fail
      rw [e1.out]
      refine hp.out.mono ?_
      rintro e w' ⟨rfl, H', S'⟩
      go_wp2_with fail
      go_roundw
      case rel => exact ⟨Y / 128, _, by have := hY.out; omega, by congr 1, by rw [List.append_assoc, ← hge.out]; exact hM.out, H', S5.trans S'⟩
      case measure => simp only [intOf]; omega

set_option maxRecDepth 100000 in
theorem Zigzag_c (x : Int) (w : World) (h : -9223372036854775808 ≤ x) (h' : x ≤ 9223372036854775807) : Calls Try.prog 66 #[.int .i64 x] w (fun e w' => e = .returned (.int .u64 (zigzag x : Nat)) ∧ w' = w) := by
  unfold zigzag
  by_cases hx : x < 0
  · rw [if_pos hx]
    go_enter Try.func66, Try.ntmps66
    go_wp2
    go_ret
    refine ⟨ret_int ?_, rfl⟩
    omega
  · rw [if_neg hx]
    go_enter Try.func66, Try.ntmps66
    go_wp2
    go_ret
    refine ⟨ret_int ?_, rfl⟩
    omega

set_option maxRecDepth 100000 in
theorem rwZig_c (b : Nat) (x : Int) (s : Ws) (w : World) (F : List HProp) (H : Holds w (fS r0 r1 b s :: F)) (h : -9223372036854775808 ≤ x) (h' : x ≤ 9223372036854775807) (hL : s.L.length ≤ 1000000000) :
    Calls Try.prog 50 #[.pointer (some ⟨b, 2, none⟩), .int .i64 x] w (Ret w (.tuple #[]) (fS r0 r1 b (s.zig x) :: F)) := by
  unfold Ws.zig
  go_enter Try.func50, Try.ntmps50
  go_wp2_with (first | (go_at_call 66; refine (Zigzag_c x _ h h').mono ?_; rintro e w' ⟨rfl, hw'⟩; obtain rfl := hw'.symm) | (go_at_call 49; refine (rwVar_c b (zigzag x) s _ F H (zigzag_lt x h h') hL).mono ?_; rintro e w' ⟨rfl, H', S'⟩) | fail)
  go_end0
  exact ⟨rfl, H', S'⟩
end Go.Proofs.Ytngnfdlkkedaaaa.P1
