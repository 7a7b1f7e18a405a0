/- Rows of times: laying them, walked. -/
import Derived.Test.YtakaolcajbhkiaaGreatTm2
import Derived.Test.YtakaolcajbhkiaaGreatBW3
import Derived.Test.YtakaolcajbhkiaaGreatLTop
import Derived.Test.YtakaolcajbhkiaaGreatSL2
import Derived.ScopeJumps
namespace Go.Proofs.YtakaolcajbhkiaaGreat
open Go.RowKit Go.SL Go.Fm
set_option linter.unusedVariables false
set_option linter.unusedSimpArgs false

theorem bits_put (s : Ws) (x n : Nat) (hn : n ≤ 64) (hx : x < 2 ^ n) : s.bits x (n : Int) = s.put (bitsOf x n) := by
  unfold Ws.bits
  rw [if_neg, Int.toNat_natCast]
  simp [wide]
  omega
theorem unary_put (s : Ws) (n : Nat) (hn : n ≤ 64) : s.unary (n : Int) = s.put (List.replicate n true ++ [false]) := by
  unfold Ws.unary
  rw [if_neg (by omega), Int.toNat_natCast]

theorem tlay0 (s : Ws) : (s.unary 0).bits 0 0 = s.put (tbits 0) := by
  have h1 : s.unary 0 = s.put [false] := unary_put s 0 (by decide)
  have h2 : ∀ s : Ws, s.bits 0 0 = s.put [] := fun s => bits_put s 0 0 (by decide) (by decide)
  rw [h1, h2, put_put]
  rfl
theorem tlay1 (s : Ws) (u : Nat) (h1 : 1 ≤ u) (h2 : u < 129) : (s.unary 1).bits ((u : Int) - 1).toNat 7 = s.put (tbits u) := by
  have e1 : s.unary 1 = s.put [true, false] := unary_put s 1 (by decide)
  have e2 : ∀ s : Ws, s.bits (u - 1) 7 = s.put (bitsOf (u - 1) 7) := fun s => bits_put s (u - 1) 7 (by decide) (by omega)
  have e3 : ((u : Int) - 1).toNat = u - 1 := by omega
  rw [e1, e3, e2, put_put]
  unfold tbits
  rw [if_neg (by omega), if_pos (by omega)]
theorem tlay2 (s : Ws) (u : Nat) (h1 : 129 ≤ u) (h2 : u < 4225) : (s.unary 2).bits ((u : Int) - 129).toNat 12 = s.put (tbits u) := by
  have e1 : s.unary 2 = s.put [true, true, false] := unary_put s 2 (by decide)
  have e2 : ∀ s : Ws, s.bits (u - 129) 12 = s.put (bitsOf (u - 129) 12) := fun s => bits_put s (u - 129) 12 (by decide) (by omega)
  have e3 : ((u : Int) - 129).toNat = u - 129 := by omega
  rw [e1, e3, e2, put_put]
  unfold tbits
  rw [if_neg (by omega), if_neg (by omega), if_pos (by omega)]
theorem tlay3 (s : Ws) (u : Nat) (h1 : 4225 ≤ u) (h2 : u < 1052801) : (s.unary 3).bits ((u : Int) - 4225).toNat 20 = s.put (tbits u) := by
  have e1 : s.unary 3 = s.put [true, true, true, false] := unary_put s 3 (by decide)
  have e2 : ∀ s : Ws, s.bits (u - 4225) 20 = s.put (bitsOf (u - 4225) 20) := fun s => bits_put s (u - 4225) 20 (by decide) (by omega)
  have e3 : ((u : Int) - 4225).toNat = u - 4225 := by omega
  rw [e1, e3, e2, put_put]
  unfold tbits
  rw [if_neg (by omega), if_neg (by omega), if_neg (by omega), if_pos (by omega)]
theorem tlay4 (s : Ws) (u : Nat) (h1 : 1052801 ≤ u) (hu : u < 18446744073709551616) : (s.bits 15 4).bits u 64 = s.put (tbits u) := by
  have e1 : ∀ s : Ws, s.bits 15 4 = s.put [true, true, true, true] := fun s => bits_put s 15 4 (by decide) (by decide)
  have e2 : ∀ s : Ws, s.bits u 64 = s.put (bitsOf u 64) := fun s => bits_put s u 64 (by decide) (by omega)
  rw [e1, e2, put_put]
  unfold tbits
  rw [if_neg (by omega), if_neg (by omega), if_neg (by omega), if_neg (by omega)]

set_option maxRecDepth 100000 in
set_option maxHeartbeats 1000000 in
theorem tLay_c (b u : Nat) (s : Ws) (w : World) (F : List HProp) (H : Holds w (wS b s :: F)) (hu : u < 18446744073709551616) (hL : s.L.length ≤ 1000000000) :
    Calls Tryz.prog 30 #[.pointer (some ⟨b, 0, none⟩), .int .u64 u] w (Ret w (.tuple #[]) (wS b (s.put (tbits u)) :: F)) := by
  have hlu := fun n => unary_len s n
  by_cases h0 : u = 0
  · subst h0
    go_enter Tryz.func30, Tryz.ntmps30
    refine wp_scope_fwd 0 rfl ?_
    go_wp2
    go_step3
    refine ⟨rfl, ?_⟩
    go_wp2_with fail
    refine (wUnary_c b 0 s _ _ H (by omega)).mono ?_
    rintro e w1 ⟨rfl, H1, S1⟩
    go_wp2_with fail
    refine (wBits_c b 0 0 _ _ _ H1 (by omega) (by omega) (by have := hlu 0; omega)).mono ?_
    rintro e w2 ⟨rfl, H2, S2⟩
    go_wp2_with fail
    go_end0
    exact ⟨rfl, by rw [← tlay0]; exact H2, S1.trans S2⟩
  have h0' : ((u : Int) == 0) = false := by simp; omega
  by_cases h1 : (u : Int) < 129
  · go_enter Tryz.func30, Tryz.ntmps30
    refine wp_scope_fwd 0 rfl ?_
    go_wp2
    go_step3
    refine ⟨rfl, ?_⟩
    go_wp2_with fail
    refine (wUnary_c b 1 s _ _ H (by omega)).mono ?_
    rintro e w1 ⟨rfl, H1, S1⟩
    go_wp2_with fail
    refine (wBits_c b ((u : Int) - 1) 7 _ _ _ H1 (by omega) (by omega) (by have := hlu 1; omega)).mono ?_
    rintro e w2 ⟨rfl, H2, S2⟩
    go_wp2_with fail
    go_end0
    exact ⟨rfl, by rw [← tlay1 s u (by omega) (by omega)]; exact H2, S1.trans S2⟩
  by_cases h2 : (u : Int) < 4225
  · go_enter Tryz.func30, Tryz.ntmps30
    refine wp_scope_fwd 0 rfl ?_
    go_wp2
    go_step3
    refine ⟨rfl, ?_⟩
    go_wp2_with fail
    refine (wUnary_c b 2 s _ _ H (by omega)).mono ?_
    rintro e w1 ⟨rfl, H1, S1⟩
    go_wp2_with fail
    refine (wBits_c b ((u : Int) - 129) 12 _ _ _ H1 (by omega) (by omega) (by have := hlu 2; omega)).mono ?_
    rintro e w2 ⟨rfl, H2, S2⟩
    go_wp2_with fail
    go_end0
    exact ⟨rfl, by rw [← tlay2 s u (by omega) (by omega)]; exact H2, S1.trans S2⟩
  by_cases h3 : (u : Int) < 1052801
  · go_enter Tryz.func30, Tryz.ntmps30
    refine wp_scope_fwd 0 rfl ?_
    go_wp2
    go_step3
    refine ⟨rfl, ?_⟩
    go_wp2_with fail
    refine (wUnary_c b 3 s _ _ H (by omega)).mono ?_
    rintro e w1 ⟨rfl, H1, S1⟩
    go_wp2_with fail
    refine (wBits_c b ((u : Int) - 4225) 20 _ _ _ H1 (by omega) (by omega) (by have := hlu 3; omega)).mono ?_
    rintro e w2 ⟨rfl, H2, S2⟩
    go_wp2_with fail
    go_end0
    exact ⟨rfl, by rw [← tlay3 s u (by omega) (by omega)]; exact H2, S1.trans S2⟩
  · have hlb := bits_len s 15 4
    go_enter Tryz.func30, Tryz.ntmps30
    refine wp_scope_fwd 0 rfl ?_
    go_wp2_with fail
    refine (wBits_c b 15 4 s _ _ H (by omega) (by omega) (by omega)).mono ?_
    rintro e w1 ⟨rfl, H1, S1⟩
    go_wp2_with fail
    refine (wBits_c b (u : Int) 64 _ _ _ H1 (by omega) (by omega) (by exact Nat.le_trans hlb (by omega))).mono ?_
    rintro e w2 ⟨rfl, H2, S2⟩
    go_wp2_with fail
    refine bodyPost_ret (results_none rfl _ _ _) rfl ⟨rfl, ?_, S1.trans S2⟩
    rw [Int.toNat_natCast] at H2
    rw [← tlay4 s u (by omega) hu]
    exact H2
end Go.Proofs.YtakaolcajbhkiaaGreat
