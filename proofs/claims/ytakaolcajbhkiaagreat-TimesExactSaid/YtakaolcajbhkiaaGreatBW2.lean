/- The writer of bits: Bit, Bits, Unary, Var, Zig, Len. -/
import Derived.Test.YtakaolcajbhkiaaGreatBW
import Derived.Test.YtakaolcajbhkiaaGreatBits2
import Derived.ScopeJumps
namespace Go.Proofs.YtakaolcajbhkiaaGreat
set_option linter.unusedVariables false
set_option linter.unusedSimpArgs false
open Go.RowKit Go.SL Go.Fm

/-- A writer's struct by its state. -/
abbrev wS (b : Nat) (s : Ws) : HProp := wr 80 5 b s.L (s.bad : Nat)

set_option maxRecDepth 100000 in
theorem lay_bad (b : Nat) (x : Int) (n : Int) (L : List Bool) (bad : Nat) (hb : bad ≠ 0) (w : World) (F : List HProp) (H : Holds w (wrS b L bad :: F)) :
    Calls Tryz.prog 80 #[.pointer (some ⟨b, 0, none⟩), .int .u64 x, .int .i64 n] w (Ret w (.tuple #[]) (wrS b L bad :: F)) := by
  obtain ⟨v, H1⟩ := wr_open H
  have c2 := H1.cell 2
  simp at c2
  have hb' : ((bad : Int) == 0) = false := by simp; omega
  go_enter Tryz.func80, Tryz.ntmps80
  go_wp2
  refine wp_loop_rounds 1 ?_
  rw [rounds_succ]
  by_cases h : 0 < n
  · go_wp2
    go_end0
    exact ⟨rfl, H, Str.refl w⟩
  · go_wp2
    go_end0
    exact ⟨rfl, H, Str.refl w⟩

/-- lay, whatever the writer's state. -/
theorem lay_c (b : Nat) (x n : Int) (s : Ws) (w : World) (F : List HProp) (H : Holds w (wS b s :: F)) (hx : 0 ≤ x) (hx' : x < 18446744073709551616) (hn : 0 ≤ n) (hn' : n ≤ 64) (hL : s.L.length ≤ 100000000000) :
    Calls Tryz.prog 80 #[.pointer (some ⟨b, 0, none⟩), .int .u64 x, .int .i64 n] w (Ret w (.tuple #[]) (wS b (s.put (bitsOf x.toNat n.toNat)) :: F)) := by
  obtain ⟨X, rfl⟩ := Int.eq_ofNat_of_zero_le hx
  obtain ⟨N, rfl⟩ := Int.eq_ofNat_of_zero_le hn
  by_cases hb : s.bad = 0
  · rw [put_zero hb]
    obtain ⟨L, bad⟩ := s
    obtain rfl : bad = 0 := hb
    exact lay_ok b X N L w F H (by omega) (by omega) (by simp only at hL; omega)
  · rw [put_bad hb]
    exact lay_bad b X N s.L s.bad hb w F H

set_option maxRecDepth 100000 in
theorem refuse_c (b : Nat) (e : Nat) (s : Ws) (w : World) (F : List HProp) (H : Holds w (wS b s :: F)) :
    Calls Tryz.prog 79 #[.pointer (some ⟨b, 0, none⟩), .int .i64 e] w (Ret w (.tuple #[]) (wS b (s.refuse e) :: F)) := by
  obtain ⟨v, H1⟩ := wr_open H
  have c2 := H1.cell 2
  have z2 := H1.free 2
  simp at c2
  unfold Ws.refuse
  by_cases hb : s.bad = 0
  · rw [if_pos hb]
    rw [hb] at c2
    go_enter Tryz.func79, Tryz.ntmps79
    go_wp2
    go_end0
    exact ⟨rfl, wr_shut (H1.store 2 _), (Str.refl w).setCell _ _⟩
  · rw [if_neg hb]
    have hb' : ((s.bad : Int) == 0) = false := by simp; omega
    go_enter Tryz.func79, Tryz.ntmps79
    go_wp2
    go_end0
    exact ⟨rfl, H, Str.refl w⟩

set_option maxRecDepth 100000 in
theorem wBits_c (b : Nat) (x n : Int) (s : Ws) (w : World) (F : List HProp) (H : Holds w (wS b s :: F)) (hx : 0 ≤ x) (hx' : x < 18446744073709551616) (hL : s.L.length ≤ 100000000000) :
    Calls Tryz.prog 29 #[.pointer (some ⟨b, 0, none⟩), .int .u64 x, .int .i64 n] w (Ret w (.tuple #[]) (wS b (s.bits x.toNat n) :: F)) := by
  have hr := refuse_c b 10 s w F H
  have hl := fun h1 h2 => lay_c b x n s w F H hx hx' h1 h2 hL
  unfold Ws.bits
  by_cases h0 : n < 0
  · rw [if_pos (by simp [wide, h0])]
    go_enter Tryz.func29, Tryz.ntmps29
    go_wp2_with (go_at_call 79; refine hr.mono ?_; rintro e w' ⟨rfl, H', S'⟩)
    refine bodyPost_ret (results_none rfl _ _ _) rfl ⟨rfl, H', S'⟩
  · by_cases h1 : 64 < n
    · rw [if_pos (by simp [wide, h1])]
      go_enter Tryz.func29, Tryz.ntmps29
      go_wp2_with (go_at_call 79; refine hr.mono ?_; rintro e w' ⟨rfl, H', S'⟩)
      refine bodyPost_ret (results_none rfl _ _ _) rfl ⟨rfl, H', S'⟩
    · have hl := hl (by omega) (by omega)
      by_cases h2 : n < 64
      · have e2 : ((2 ^ n.toNat : Nat) : Int) = 2 ^ n.toNat := by simp
        have hp : (0 : Int) < 2 ^ n.toNat := Int.pow_pos (by decide)
        by_cases h3 : 2 ^ n.toNat ≤ x.toNat
        · rw [if_pos (by simp [wide, h3])]
          have h4 : (x / 2 ^ n.toNat != 0) = true := by
            have h5 : 2 ^ n.toNat ≤ x := by rw [← e2]; omega
            have := Int.ediv_le_ediv hp h5
            rw [Int.ediv_self (by omega)] at this
            simp only [bne_iff_ne, ne_eq]
            omega
          clear e2 hp
          go_enter Tryz.func29, Tryz.ntmps29
          go_wp2_with (go_at_call 79; refine hr.mono ?_; rintro e w' ⟨rfl, H', S'⟩)
          refine bodyPost_ret (results_none rfl _ _ _) rfl ⟨rfl, H', S'⟩
        · rw [if_neg (by simp [wide, h0, h1, h3])]
          have h4 : (x / 2 ^ n.toNat != 0) = false := by
            have h5 : x < 2 ^ n.toNat := by rw [← e2]; omega
            have := Int.ediv_eq_zero_of_lt hx h5
            simp [this]
          clear e2 hp
          go_enter Tryz.func29, Tryz.ntmps29
          go_wp2_with (go_at_call 80; refine hl.mono ?_; rintro e w' ⟨rfl, H', S'⟩)
          go_end0
          exact ⟨rfl, H', S'⟩
      · obtain rfl : n = 64 := by omega
        rw [if_neg (by simp [wide]; omega)]
        go_enter Tryz.func29, Tryz.ntmps29
        go_wp2_with (go_at_call 80; refine hl.mono ?_; rintro e w' ⟨rfl, H', S'⟩)
        go_end0
        exact ⟨rfl, H', S'⟩

/-- What the program reckons for so many ones. -/
theorem unary_lt (n : Nat) (h : n ≤ 64) : 2 ^ n - 1 < 18446744073709551616 := by
  have : 2 ^ n ≤ 2 ^ 64 := Nat.pow_le_pow_right (by decide) h
  have h2 : (2 : Nat) ^ 64 = 18446744073709551616 := by decide
  omega
theorem unary_num (n : Nat) (h : n ≤ 64) : IntKind.u64.wrap (IntKind.u64.wrap (2 ^ n) - 1) = ((2 ^ n - 1 : Nat) : Int) := by
  have hw : ∀ x : Int, IntKind.u64.wrap x = x % 18446744073709551616 := fun x => by simp [IntKind.wrap, IntKind.bits, IntKind.signed]
  have e2 : ((2 ^ n : Nat) : Int) = 2 ^ n := by simp
  have h1 := unary_lt n h
  have hp : 0 < 2 ^ n := Nat.two_pow_pos n
  rw [hw, hw, ← e2]
  omega

set_option maxRecDepth 100000 in
theorem wUnary_c (b : Nat) (n : Int) (s : Ws) (w : World) (F : List HProp) (H : Holds w (wS b s :: F)) (hL : s.L.length ≤ 10000000000) :
    Calls Tryz.prog 81 #[.pointer (some ⟨b, 0, none⟩), .int .i64 n] w (Ret w (.tuple #[]) (wS b (s.unary n) :: F)) := by
  have hr := refuse_c b 11 s w F H
  unfold Ws.unary
  by_cases h0 : n < 0
  · rw [if_pos (.inl h0)]
    go_enter Tryz.func81, Tryz.ntmps81
    go_wp2_with (go_at_call 79; refine hr.mono ?_; rintro e w' ⟨rfl, H', S'⟩)
    refine bodyPost_ret (results_none rfl _ _ _) rfl ⟨rfl, H', S'⟩
  · by_cases h1 : 64 < n
    · rw [if_pos (.inr h1)]
      go_enter Tryz.func81, Tryz.ntmps81
      go_wp2_with (go_at_call 79; refine hr.mono ?_; rintro e w' ⟨rfl, H', S'⟩)
      refine bodyPost_ret (results_none rfl _ _ _) rfl ⟨rfl, H', S'⟩
    · rw [if_neg (by omega)]
      go_enter Tryz.func81, Tryz.ntmps81
      go_wp2_with fail
      rw [unary_num n.toNat (by omega)]
      have hp : 2 ^ n.toNat - 1 < 18446744073709551616 := unary_lt n.toNat (by omega)
      refine (lay_c b _ n s w F H (by omega) (by omega) (by omega) (by omega) (by omega)).mono ?_
      rintro e w' ⟨rfl, H', S'⟩
      rw [Int.toNat_natCast, bitsOf_ones] at H'
      have hq := put_len s (List.replicate n.toNat true)
      rw [List.length_replicate] at hq
      clear hp
      go_wp2_with (go_at_call 80; refine (lay_c b 0 1 _ w' F H' (by omega) (by omega) (by omega) (by omega) (by omega)).mono ?_; rintro e w2 ⟨rfl, H2, S2⟩)
      go_end0
      refine ⟨rfl, ?_, S'.trans S2⟩
      rw [put_put] at H2
      exact H2

theorem bits_or_comm (k : IntKind) (a b : Int) : bits .or k a b = bits .or k b a := by simp only [bits, BitVec.or_comm]
/-- What the program reckons for a Var's group. -/
theorem var_group (X : Nat) (h : X < 18446744073709551616) : bits .or .u64 (bits .and .u64 (X : Int) 127) 128 = ((128 + X % 128 : Nat) : Int) := by
  have e : bits .and .u64 (X : Int) 127 = (X : Int) % 128 := bits_mask .u64 64 (by decide) (fun n a b => IntWalk.u64_in n (by omega)) 7 (by decide) _ (by omega) (by omega)
  rw [e]
  have := bits_join .u64 64 (by decide) (fun n a b => IntWalk.u64_in n (by omega)) 7 128 ((X : Int) % 128) (by decide) (by decide) (by decide) (by omega) (by omega) (by omega)
  rw [bits_or_comm, this]
  omega

/-- What the program reckons for a Zig's number. -/
theorem xor_ones (a : Nat) (h : a < 18446744073709551616) : a ^^^ 18446744073709551615 = 18446744073709551615 - a := by
  apply Nat.eq_of_testBit_eq
  intro i
  have e1 : (18446744073709551615 : Nat) = 2 ^ 64 - 1 := by decide
  have e2 : 18446744073709551615 - a = 2 ^ 64 - (a + 1) := by omega
  rw [Nat.testBit_xor, e2, Nat.testBit_two_pow_sub_succ (by simpa using h), e1, Nat.testBit_two_pow_sub_one]
  by_cases hi : i < 64
  · simp [hi]
  · have : a.testBit i = false := Nat.testBit_lt_two_pow (Nat.lt_of_lt_of_le h (by
      have : 2 ^ 64 ≤ 2 ^ i := Nat.pow_le_pow_right (by decide) (by omega)
      simpa using this))
    simp [hi, this]
theorem zig_num (x : Int) (h : -9223372036854775808 ≤ x) (h' : x ≤ 9223372036854775807) : bits .xor .u64 (IntKind.u64.wrap (IntKind.u64.wrap x * 2)) (IntKind.u64.wrap (x / 9223372036854775808)) = (zigzag x : Nat) := by
  have hw : ∀ x : Int, IntKind.u64.wrap x = x % 18446744073709551616 := fun x => by simp [IntKind.wrap, IntKind.bits, IntKind.signed]
  rw [hw, hw, hw]
  unfold zigzag
  split
  · have e1 : x / 9223372036854775808 % 18446744073709551616 = ((18446744073709551615 : Nat) : Int) := by omega
    have e2 : x % 18446744073709551616 * 2 % 18446744073709551616 = ((2 * x + 18446744073709551616).toNat : Int) := by omega
    rw [e1, e2, u64_xor_nat _ _ (by omega) (by decide), xor_ones _ (by omega)]
    omega
  · have e1 : x / 9223372036854775808 % 18446744073709551616 = ((0 : Nat) : Int) := by omega
    have e2 : x % 18446744073709551616 * 2 % 18446744073709551616 = ((2 * x.toNat : Nat) : Int) := by omega
    rw [e1, e2, u64_xor_nat _ _ (by omega) (by decide), Nat.xor_zero]

end Go.Proofs.YtakaolcajbhkiaaGreat
