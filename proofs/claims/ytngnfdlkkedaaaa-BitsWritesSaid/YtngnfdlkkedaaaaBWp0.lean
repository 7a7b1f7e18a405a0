/- The writer of bits: what each of its methods does to its bits. The writer of bits: Bit, Bits, Unary, Var, Zig, Len. slices.Clone of bytes; Done; From. -/
import Derived.Test.YtngnfdlkkedaaaaBW
import Derived.Test.YtngnfdlkkedaaaaObjs
import Derived.Deep.CutBlock
import Derived.Deep.DeepCutAuto
import Derived.Deep.Light
import Derived.Lib.Hide
import Derived.BigRegion
import Derived.Test.YtngnfdlkkedaaaaBW3
import Derived.Test.YtngnfdlkkedaaaaBits2
import Derived.ScopeJumps
import Derived.WalkSpells
namespace Go.Proofs.Ytngnfdlkkedaaaa.P0
set_option linter.unusedVariables false
set_option linter.unusedSimpArgs false
open Go.RowKit Go.SL Go.Fm


def wr (q0 q1 q2 : Value) (T E : TypeId) (b : Nat) (L : List Bool) (bad : Int) : HProp := fun h =>
  ∃ v, sep (pts b (.cells #[v, .int .i64 (L.length : Nat), .int .i64 bad, q0, q1, q2] T (0, 0))) (own E 1 v (pack L).length (bv (pack L))) h
theorem wr_open {q0 q1 q2 : Value} {T E : TypeId} {b : Nat} {L : List Bool} {bad : Int} {w : World} {F : List HProp} (h : Holds w (wr q0 q1 q2 T E b L bad :: F)) :
    ∃ v, Holds w (pts b (.cells #[v, .int .i64 (L.length : Nat), .int .i64 bad, q0, q1, q2] T (0, 0)) :: own E 1 v (pack L).length (bv (pack L)) :: F) := by
  obtain ⟨v, h⟩ := Holds.elim h
  exact ⟨v, h.split⟩
theorem wr_shut {q0 q1 q2 : Value} {T E : TypeId} {b : Nat} {L : List Bool} {bad : Int} {w : World} {F : List HProp} {v : Value}
    (h : Holds w (pts b (.cells #[v, .int .i64 (L.length : Nat), .int .i64 bad, q0, q1, q2] T (0, 0)) :: own E 1 v (pack L).length (bv (pack L)) :: F)) : Holds w (wr q0 q1 q2 T E b L bad :: F) :=
  h.unsplit.mono fun _ hx => ⟨v, hx⟩


abbrev wrS (q0 q1 q2 : Value) := wr q0 q1 q2 49 5
variable {q0 q1 q2 : Value}

/-- A round's end: the last byte and the count. -/
theorem lay_close {w2 : World} {b g cap : Nat} {rest : List Value} {M c : List Bool} {F : List HProp} (hcap : M.length / 8 + 1 ≤ cap) (hcm : cap ≤ maxLen) (hlen : M.length / 8 + 1 + rest.length = cap)
    (H : Holds w2 (pts b (.cells #[.slice (some ⟨g, 0, none⟩) (M.length / 8 + 1) cap, .int .i64 (M.length : Nat), .int .i64 0, q0, q1, q2] 49 (0,0)) :: pts g (.cells (bv (fullB M ++ [byte (tailB M)]) ++ rest).toArray 5 (0, 0)) :: F))
    (hc : 0 < c.length) (h : M.length % 8 + c.length ≤ 8) {q l : Int} (hq : q = (byte (tailB M ++ c) : Nat)) (hl : l = ((M ++ c).length : Nat)) :
    Holds (((w2.setCell ⟨g, M.length / 8, none⟩ (.int .u8 q)).setCell ⟨b, 1, none⟩ (.int .i64 l)).drew) (wrS q0 q1 q2 b (M ++ c) 0 :: F) := by
  subst hq hl
  have H := H.swap.store (M.length / 8) (.int .u8 (byte (tailB M ++ c) : Nat))
  have H := (H.swap.store 1 (.int .i64 ((M ++ c).length : Nat))).drew
  have e : (pack (M ++ c)).length = M.length / 8 + 1 := by rw [length_pack, List.length_append]; omega
  refine wr_shut (v := .slice (some ⟨g, 0, none⟩) (M.length / 8 + 1) cap) ?_
  rw [e, pack_append M c hc h]
  refine Holds.swap (Holds.own_of_pts (rest := rest) H.swap hcap hcm ?_ ?_ ?_)
  · simp [length_fullB]
  · simp [bv_append, bv_one, List.set_append, length_fullB]
  · simp [length_fullB]; omega

set_option maxRecDepth 100000 in
set_option maxHeartbeats 1000000 in
theorem lay_ok (b X n : Nat) (L : List Bool) (w : World) (F : List HProp) (H : Holds w (wrS q0 q1 q2 b L 0 :: F)) (_hX : X < 18446744073709551616) (hn : n ≤ 64) (hL : L.length + n ≤ 1000000000000) :
    Calls Try.prog 41 #[.pointer (some ⟨b, 0, none⟩), .int .u64 X, .int .i64 n] w (Ret w (.tuple #[]) (wrS q0 q1 q2 b (L ++ bitsOf X n) 0 :: F)) := by
  obtain ⟨i0, hi, hz0, hz1, hz2⟩ := info_parts info_u8
  go_enter Try.func41, Try.ntmps41
  go_wp2
  go_loopw [2, 6, 7, 8] (fun s2 _ _ _ wr => ∃ (k : Nat) (M : List Bool), k ≤ n ∧ s2 = .int .i64 k ∧ M ++ bitsOf X k = L ++ bitsOf X n ∧ Holds wr (wrS q0 q1 q2 b M 0 :: F) ∧ Str w wr) (fun s2 _ _ _ _ => (intOf s2).toNat)
  case atStart => exact ⟨n, L, Nat.le_refl n, rfl, rfl, H, Str.refl w⟩
  case round =>
    obtain ⟨k, M, hkn, rfl, HM, H, HS⟩ := hrel
    have hML : M.length + k = L.length + n := by have := congrArg List.length HM; simpa using this
    replace HM := Lib.hid HM
    have HML := Lib.hid hML
    have hM : M.length ≤ 1000000000000 := by omega
    clear hML
    obtain ⟨v, H⟩ := wr_open H
    have c0 := H.cell 0
    have c1 := H.cell 1
    have c2 := H.cell 2
    have z0 := H.free 0
    simp at c0 c1 c2
    by_cases hk0 : 0 < k
    · go_upto_if 23 with fail
      go_cut [24] (fun _ wc => ∃ (g cap : Nat) (rest : List Value), (M.length / 8 + 1) ≤ cap ∧ cap ≤ maxLen ∧ M.length / 8 + 1 + rest.length = cap ∧ Str w wc ∧
        Holds wc (pts b (.cells #[.slice (some ⟨g, 0, none⟩) (M.length / 8 + 1) cap, .int .i64 (M.length : Nat), .int .i64 0, q0, q1, q2] 49 (0,0)) :: pts g (.cells (bv (fullB M ++ [byte (tailB M)]) ++ rest).toArray 5 (0, 0)) :: F))
      case first =>
        by_cases h8 : M.length % 8 = 0
        · have e8 : (pack M).length = M.length / 8 := by rw [length_pack]; omega
          rw [e8] at H
          have E8 := Lib.hid e8
          clear e8
          have h8i : (M.length : Int) % 8 = 0 := by omega
          go_wp2_with (at_builtin; refine wpList_append_sl rfl _ _ _ rfl i0 (.int .u8 0) Try.underlying25 hi hz0 hz1 hz2 rfl (by decide) rfl (x := .slice (some ⟨wr.heap.size, 0, none⟩) 1 1) rfl (H.swap.alloc' _) (m := 1) (news := [.int .u8 0]) (slice_new wr _ _ _ 1 1 rfl (by decide)) (by simp [Value.oneCell']) (by omega) (by unfold maxLen; omega) ?_; intro v1 w1 H1 S1; obtain ⟨g, cap, rest, rfl, hcap, hcm, hlen, hlen2, H1⟩ := H1.own_block (by omega); have d0 := H1.swap.cell 0; have e0 := H1.swap.free 0; simp at d0)
          go_meet
          case rel =>
            have e := pack_open M
            rw [if_pos h8] at e
            refine ⟨g, cap, rest, hcap, hcm, ?_, (HS.alloc _).trans S1 |>.setCell _ _, ?_⟩
            · rw [List.length_append, length_bv, List.length_singleton, E8.out] at hlen2; omega
            · rw [← e, bv_append]
              exact H1.swap.store 0 _
        · have h8i : ((M.length : Int) % 8 == 0) = false := by simp; omega
          go_wp2
          go_meet
          case rel =>
            obtain ⟨g, cap, rest, rfl, hcap, hcm, hlen, hlen2, H1⟩ := H.swap.own_block (by rw [length_pack]; omega)
            have e := pack_open M
            rw [if_neg h8] at e
            have e2 : (pack M).length = M.length / 8 + 1 := by rw [length_pack]; omega
            rw [e2] at H1 hcap
            refine ⟨g, cap, rest, hcap, hcm, ?_, HS, ?_⟩
            · rw [length_bv, e2] at hlen2; omega
            · rw [← e]
              exact H1.swap
      case rest =>
        obtain ⟨g, cap, rest, hcap, hcm, hlen, HS1, H1⟩ := hcut
        clear c0 c1 c2 z0 HS
        have c1 := H1.cell 1
        simp at c1
        have hq : (bv (fullB M ++ [byte (tailB M)]) ++ rest).toArray[M.length / 8]? = some (.int .u8 (byte (tailB M) : Nat)) := by
          simp only [List.getElem?_toArray]
          rw [bv_append, List.append_assoc, List.getElem?_append_right (by simp [length_fullB])]
          simp [length_fullB, bv]
        have HQ := Lib.hid hq
        clear hq
        have hm8 : (0 : Int) ≤ (M.length : Int) % 8 := by omega
        have hm9 : (M.length : Int) % 8 < 8 := by omega
        by_cases hk8 : (k : Int) < 8 - (M.length : Int) % 8
        all_goals
          go_upto_region 5 with fail
          go_quiet (fail)
          rename_i nq
          have H2 : Holds (wc.drewN nq) _ := H1
          have HS2 : Str w (wc.drewN nq) := HS1.drewN nq
          clear c1 H1 HS1
          generalize wc.drewN nq = w2 at H2 HS2 ⊢
          have c0 := H2.cell 0
          have c1 := H2.cell 1
          have z1 := H2.free 1
          have c3 := H2.swap.cell (M.length / 8)
          rw [HQ.out] at c3
          have z3 := H2.swap.free (M.length / 8)
          simp at c0 c1
          have hne := H2.ne
          have hne2 := Ne.symm hne
          have hw1 : IntKind.i64.wrap (((M.length / 8 + 1 : Nat) : Int) - 1) = ((M.length / 8 + 1 : Nat) : Int) - 1 := IntWalk.i64_in _ (by unfold maxLen at hcm; omega)
          have hb1 : (0 : Int) ≤ ((M.length / 8 + 1 : Nat) : Int) - 1 := by omega
          have hb2 : ((M.length / 8 + 1 : Nat) : Int) - 1 < ((M.length / 8 + 1 : Nat) : Int) := by omega
          have hm1 : (((M.length / 8 + 1 : Nat) : Int) - 1).toNat = M.length / 8 := by omega
          go_upto_region 6 with fail
          go_region
          go_wp2
          go_roundw
          case rel =>
            first
              | (have e := bitsOf_split X k 0
                 refine ⟨0, M ++ bitsOf X k, by omega, rfl, ?_, lay_close hcap hcm hlen H2 (by simpa using hk0) (by simp; omega) ?_ (by simp), (((HS2.setCell _ _).setCell _ _).drew)⟩
                 · rw [← HM.out]; simp [bitsOf]
                 · have := lay_byte (tailB M) X k hk0 (by rw [length_tailB]; omega)
                   rw [length_tailB] at this
                   exact this)
              | (have e := bitsOf_split X (8 - M.length % 8) (k - (8 - M.length % 8))
                 rw [show 8 - M.length % 8 + (k - (8 - M.length % 8)) = k by omega] at e
                 refine ⟨k - (8 - M.length % 8), M ++ bitsOf (X / 2 ^ (k - (8 - M.length % 8))) (8 - M.length % 8), by omega, by congr 1; omega, ?_, lay_close hcap hcm hlen H2 (by simp; omega) (by simp; omega) ?_ (by simp; omega), (((HS2.setCell _ _).setCell _ _).drew)⟩
                 · rw [← HM.out, e, List.append_assoc]
                 · have := lay_byte (tailB M) (X / 2 ^ (k - (8 - M.length % 8))) (8 - M.length % 8) (by omega) (by rw [length_tailB]; omega)
                   rw [length_tailB] at this
                   simpa using this)
          case measure => simp [intOf]; omega
    · obtain rfl : k = 0 := by omega
      go_wp2
      go_end0
      refine ⟨rfl, ?_, HS⟩
      have e := HM.out
      rw [show bitsOf X 0 = [] from rfl, List.append_nil] at e
      rw [← e]
      exact wr_shut H

end Go.Proofs.Ytngnfdlkkedaaaa.P0

namespace Go.Proofs.Ytngnfdlkkedaaaa.P0
set_option linter.unusedVariables false
set_option linter.unusedSimpArgs false
open Go.RowKit Go.SL Go.Fm

variable {q0 q1 q2 : Value}
/-- A writer's struct by its state. -/
abbrev wS (q0 q1 q2 : Value) (b : Nat) (s : Ws) : HProp := wr q0 q1 q2 49 5 b s.L (s.bad : Nat)

set_option maxRecDepth 100000 in
theorem lay_bad (b : Nat) (x : Int) (n : Int) (L : List Bool) (bad : Nat) (hb : bad ≠ 0) (w : World) (F : List HProp) (H : Holds w (wrS q0 q1 q2 b L bad :: F)) :
    Calls Try.prog 41 #[.pointer (some ⟨b, 0, none⟩), .int .u64 x, .int .i64 n] w (Ret w (.tuple #[]) (wrS q0 q1 q2 b L bad :: F)) := by
  obtain ⟨v, H1⟩ := wr_open H
  have c2 := H1.cell 2
  simp at c2
  have hb' : ((bad : Int) == 0) = false := by simp; omega
  go_enter Try.func41, Try.ntmps41
  go_wp2
  refine wp_loop_rounds 1 ?_
  rw [rounds_succ]
  by_cases h : 0 < n
  · go_wp2
    go_end0
    exact ⟨rfl, H, Str.refl w⟩
  · go_wp2
    go_end0
    exact ⟨rfl, H, Str.refl w⟩

/-- lay, whatever the writer's state. -/
theorem lay_c (b : Nat) (x n : Int) (s : Ws) (w : World) (F : List HProp) (H : Holds w (wS q0 q1 q2 b s :: F)) (hx : 0 ≤ x) (hx' : x < 18446744073709551616) (hn : 0 ≤ n) (hn' : n ≤ 64) (hL : s.L.length ≤ 100000000000) :
    Calls Try.prog 41 #[.pointer (some ⟨b, 0, none⟩), .int .u64 x, .int .i64 n] w (Ret w (.tuple #[]) (wS q0 q1 q2 b (s.put (bitsOf x.toNat n.toNat)) :: F)) := by
  obtain ⟨X, rfl⟩ := Int.eq_ofNat_of_zero_le hx
  obtain ⟨N, rfl⟩ := Int.eq_ofNat_of_zero_le hn
  by_cases hb : s.bad = 0
  · rw [put_zero hb]
    obtain ⟨L, bad⟩ := s
    obtain rfl : bad = 0 := hb
    exact lay_ok b X N L w F H (by omega) (by omega) (by simp only at hL; omega)
  · rw [put_bad hb]
    exact lay_bad b X N s.L s.bad hb w F H

set_option maxRecDepth 100000 in
theorem refuse_c (b : Nat) (e : Nat) (s : Ws) (w : World) (F : List HProp) (H : Holds w (wS q0 q1 q2 b s :: F)) :
    Calls Try.prog 42 #[.pointer (some ⟨b, 0, none⟩), .int .i64 e] w (Ret w (.tuple #[]) (wS q0 q1 q2 b (s.refuse e) :: F)) := by
  obtain ⟨v, H1⟩ := wr_open H
  have c2 := H1.cell 2
  have z2 := H1.free 2
  simp at c2
  unfold Ws.refuse
  by_cases hb : s.bad = 0
  · rw [if_pos hb]
    rw [hb] at c2
    go_enter Try.func42, Try.ntmps42
    go_wp2
    go_end0
    exact ⟨rfl, wr_shut (H1.store 2 _), (Str.refl w).setCell _ _⟩
  · rw [if_neg hb]
    have hb' : ((s.bad : Int) == 0) = false := by simp; omega
    go_enter Try.func42, Try.ntmps42
    go_wp2
    go_end0
    exact ⟨rfl, H, Str.refl w⟩

set_option maxRecDepth 100000 in
theorem wBit_c (b : Nat) (v : Bool) (s : Ws) (w : World) (F : List HProp) (H : Holds w (wS q0 q1 q2 b s :: F)) (hL : s.L.length ≤ 100000000000) :
    Calls Try.prog 15 #[.pointer (some ⟨b, 0, none⟩), .bool v] w (Ret w (.tuple #[]) (wS q0 q1 q2 b (s.bit v) :: F)) := by
  have h1 := lay_c b 1 1 s w F H (by omega) (by omega) (by omega) (by omega) hL
  have h0 := lay_c b 0 1 s w F H (by omega) (by omega) (by omega) (by omega) hL
  cases v
  · go_enter Try.func15, Try.ntmps15
    go_wp2_with (go_at_call 41; refine h0.mono ?_; rintro e w' ⟨rfl, H', S'⟩)
    go_end0
    exact ⟨rfl, H', S'⟩
  · go_enter Try.func15, Try.ntmps15
    go_wp2_with (go_at_call 41; refine h1.mono ?_; rintro e w' ⟨rfl, H', S'⟩)
    go_end0
    exact ⟨rfl, H', S'⟩

set_option maxRecDepth 100000 in
theorem wBits_c (b : Nat) (x n : Int) (s : Ws) (w : World) (F : List HProp) (H : Holds w (wS q0 q1 q2 b s :: F)) (hx : 0 ≤ x) (hx' : x < 18446744073709551616) (hL : s.L.length ≤ 100000000000) :
    Calls Try.prog 14 #[.pointer (some ⟨b, 0, none⟩), .int .u64 x, .int .i64 n] w (Ret w (.tuple #[]) (wS q0 q1 q2 b (s.bits x.toNat n) :: F)) := by
  have hr := refuse_c b 10 s w F H
  have hl := fun h1 h2 => lay_c b x n s w F H hx hx' h1 h2 hL
  unfold Ws.bits
  by_cases h0 : n < 0
  · rw [if_pos (by simp [wide, h0])]
    go_enter Try.func14, Try.ntmps14
    go_wp2_with (go_at_call 42; refine hr.mono ?_; rintro e w' ⟨rfl, H', S'⟩)
    refine bodyPost_ret (results_none rfl _ _ _) rfl ⟨rfl, H', S'⟩
  · by_cases h1 : 64 < n
    · rw [if_pos (by simp [wide, h1])]
      go_enter Try.func14, Try.ntmps14
      go_wp2_with (go_at_call 42; refine hr.mono ?_; rintro e w' ⟨rfl, H', S'⟩)
      refine bodyPost_ret (results_none rfl _ _ _) rfl ⟨rfl, H', S'⟩
    · have hl := hl (by omega) (by omega)
      by_cases h2 : n < 64
      · have e2 : ((2 ^ n.toNat : Nat) : Int) = 2 ^ n.toNat := by simp
        have hp : (0 : Int) < 2 ^ n.toNat := Int.pow_pos (by decide)
        by_cases h3 : 2 ^ n.toNat ≤ x.toNat
        · rw [if_pos (by simp [wide, h3])]
          have h4 : (x / 2 ^ n.toNat != 0) = true := by
            have h5 : 2 ^ n.toNat ≤ x := by rw [← e2]; omega
            have := Int.ediv_le_ediv hp h5
            rw [Int.ediv_self (by omega)] at this
            simp only [bne_iff_ne, ne_eq]
            omega
          clear e2 hp
          go_enter Try.func14, Try.ntmps14
          go_wp2_with (go_at_call 42; refine hr.mono ?_; rintro e w' ⟨rfl, H', S'⟩)
          refine bodyPost_ret (results_none rfl _ _ _) rfl ⟨rfl, H', S'⟩
        · rw [if_neg (by simp [wide, h0, h1, h3])]
          have h4 : (x / 2 ^ n.toNat != 0) = false := by
            have h5 : x < 2 ^ n.toNat := by rw [← e2]; omega
            have := Int.ediv_eq_zero_of_lt hx h5
            simp [this]
          clear e2 hp
          go_enter Try.func14, Try.ntmps14
          go_wp2_with (go_at_call 41; refine hl.mono ?_; rintro e w' ⟨rfl, H', S'⟩)
          go_end0
          exact ⟨rfl, H', S'⟩
      · obtain rfl : n = 64 := by omega
        rw [if_neg (by simp [wide]; omega)]
        go_enter Try.func14, Try.ntmps14
        go_wp2_with (go_at_call 41; refine hl.mono ?_; rintro e w' ⟨rfl, H', S'⟩)
        go_end0
        exact ⟨rfl, H', S'⟩

/-- What the program reckons for so many ones. -/
theorem unary_lt (n : Nat) (h : n ≤ 64) : 2 ^ n - 1 < 18446744073709551616 := by
  have : 2 ^ n ≤ 2 ^ 64 := Nat.pow_le_pow_right (by decide) h
  have h2 : (2 : Nat) ^ 64 = 18446744073709551616 := by decide
  omega
theorem unary_num (n : Nat) (h : n ≤ 64) : IntKind.u64.wrap (IntKind.u64.wrap (2 ^ n) - 1) = ((2 ^ n - 1 : Nat) : Int) := by
  have hw : ∀ x : Int, IntKind.u64.wrap x = x % 18446744073709551616 := fun x => by simp [IntKind.wrap, IntKind.bits, IntKind.signed]
  have e2 : ((2 ^ n : Nat) : Int) = 2 ^ n := by simp
  have h1 := unary_lt n h
  have hp : 0 < 2 ^ n := Nat.two_pow_pos n
  rw [hw, hw, ← e2]
  omega

set_option maxRecDepth 100000 in
theorem wUnary_c (b : Nat) (n : Int) (s : Ws) (w : World) (F : List HProp) (H : Holds w (wS q0 q1 q2 b s :: F)) (hL : s.L.length ≤ 10000000000) :
    Calls Try.prog 37 #[.pointer (some ⟨b, 0, none⟩), .int .i64 n] w (Ret w (.tuple #[]) (wS q0 q1 q2 b (s.unary n) :: F)) := by
  have hr := refuse_c b 11 s w F H
  unfold Ws.unary
  by_cases h0 : n < 0
  · rw [if_pos (.inl h0)]
    go_enter Try.func37, Try.ntmps37
    go_wp2_with (go_at_call 42; refine hr.mono ?_; rintro e w' ⟨rfl, H', S'⟩)
    refine bodyPost_ret (results_none rfl _ _ _) rfl ⟨rfl, H', S'⟩
  · by_cases h1 : 64 < n
    · rw [if_pos (.inr h1)]
      go_enter Try.func37, Try.ntmps37
      go_wp2_with (go_at_call 42; refine hr.mono ?_; rintro e w' ⟨rfl, H', S'⟩)
      refine bodyPost_ret (results_none rfl _ _ _) rfl ⟨rfl, H', S'⟩
    · rw [if_neg (by omega)]
      go_enter Try.func37, Try.ntmps37
      go_wp2_with fail
      rw [unary_num n.toNat (by omega)]
      have hp : 2 ^ n.toNat - 1 < 18446744073709551616 := unary_lt n.toNat (by omega)
      refine (lay_c b _ n s w F H (by omega) (by omega) (by omega) (by omega) (by omega)).mono ?_
      rintro e w' ⟨rfl, H', S'⟩
      rw [Int.toNat_natCast, bitsOf_ones] at H'
      have hq := put_len s (List.replicate n.toNat true)
      rw [List.length_replicate] at hq
      clear hp
      go_wp2_with (go_at_call 41; refine (lay_c b 0 1 _ w' F H' (by omega) (by omega) (by omega) (by omega) (by omega)).mono ?_; rintro e w2 ⟨rfl, H2, S2⟩)
      go_end0
      refine ⟨rfl, ?_, S'.trans S2⟩
      rw [put_put] at H2
      exact H2

theorem bits_or_comm (k : IntKind) (a b : Int) : bits .or k a b = bits .or k b a := by simp only [bits, BitVec.or_comm]
/-- What the program reckons for a Var's group. -/
theorem var_group (X : Nat) (h : X < 18446744073709551616) : bits .or .u64 (bits .and .u64 (X : Int) 127) 128 = ((128 + X % 128 : Nat) : Int) := by
  have e : bits .and .u64 (X : Int) 127 = (X : Int) % 128 := bits_mask .u64 64 (by decide) (fun n a b => IntWalk.u64_in n (by omega)) 7 (by decide) _ (by omega) (by omega)
  rw [e]
  have := bits_join .u64 64 (by decide) (fun n a b => IntWalk.u64_in n (by omega)) 7 128 ((X : Int) % 128) (by decide) (by decide) (by decide) (by omega) (by omega) (by omega)
  rw [bits_or_comm, this]
  omega

set_option maxRecDepth 100000 in
theorem wVar_c (b : Nat) (X : Nat) (s : Ws) (w : World) (F : List HProp) (H : Holds w (wS q0 q1 q2 b s :: F)) (hX : X < 18446744073709551616) (hL : s.L.length ≤ 10000000000) :
    Calls Try.prog 9 #[.pointer (some ⟨b, 0, none⟩), .int .u64 X] w (Ret w (.tuple #[]) (wS q0 q1 q2 b (s.var X) :: F)) := by
  go_enter Try.func9, Try.ntmps9
  go_wp2
  refine wp_scope_jumps 0 (fun a' w' => ∃ (Y : Nat) (c : List Bool) (u4 u5 u6 u7 u8 u9 u10 u11 u12 u13 u14 u15 : Value),
      a' = { tmps := #[.pointer (some ⟨b, 0, none⟩), .int .u64 Y, undef, undef, u4, u5, u6, u7, u8, u9, u10, u11, u12, u13, u14, u15], defers := [] } ∧ Y ≤ X ∧ c ++ varBits Y = varBits X ∧ Holds w' (wS q0 q1 q2 b (s.put c) :: F) ∧ Str w w')
    (fun a' _ => (intOf (a'.tmps.getD 1 undef)).toNat) rfl ?_ ?_
  · go_wp2
    go_step3
    by_cases h : X < 128
    · go_wp2_with (go_at_call 41; refine (lay_c b X 8 s w F H (by omega) (by omega) (by omega) (by omega) (by omega)).mono ?_; rintro e w' ⟨rfl, H', S'⟩)
      simp only [Exit.jump]
      go_end0
      refine ⟨rfl, ?_, S'⟩
      unfold Ws.var
      rw [varBits_lt X h]
      exact H'
    · go_wp2_with fail
      rw [var_group X hX]
      refine (lay_c b _ 8 s w F H (by omega) (by omega) (by omega) (by omega) (by omega)).mono ?_
      rintro e w' ⟨rfl, H', S'⟩
      go_wp2
      go_step3
      rw [show (X : Int) / 128 = ((X / 128 : Nat) : Int) by omega]
      rw [Int.toNat_natCast] at H'
      exact ⟨rfl, X / 128, _, _, _, _, _, _, _, _, _, _, _, _, _, rfl, by omega, (varBits_ge X h).symm, H', S'⟩
  · rintro a' w' ⟨Y, c, u4, u5, u6, u7, u8, u9, u10, u11, u12, u13, u14, u15, rfl, hY, hc, H1, S1⟩
    have HC := Lib.hid hc
    have hlen : c.length ≤ 80 := by
      have h1 := congrArg List.length hc
      have h2 := length_varBits64 X hX
      rw [List.length_append] at h1
      omega
    have hq := put_len s c
    clear hc
    by_cases h : Y < 128
    · go_wp2_with (go_at_call 41; refine (lay_c b Y 8 (s.put c) w' F H1 (by omega) (by omega) (by omega) (by omega) (by omega)).mono ?_; rintro e w2 ⟨rfl, H2, S2⟩)
      simp only [Exit.jump]
      go_end0
      refine ⟨rfl, ?_, S1.trans S2⟩
      unfold Ws.var
      rw [← HC.out, varBits_lt Y h, ← put_put]
      exact H2
    · go_wp2_with fail
      rw [var_group Y (by omega)]
      refine (lay_c b _ 8 (s.put c) w' F H1 (by omega) (by omega) (by omega) (by omega) (by omega)).mono ?_
      rintro e w2 ⟨rfl, H2, S2⟩
      go_wp2
      go_step3
      rw [show (Y : Int) / 128 = ((Y / 128 : Nat) : Int) by omega]
      rw [Int.toNat_natCast, put_put] at H2
      refine ⟨rfl, ⟨Y / 128, _, _, _, _, _, _, _, _, _, _, _, _, _, rfl, by omega, ?_, H2, S1.trans S2⟩, ?_⟩
      · rw [← HC.out, varBits_ge Y h, List.append_assoc]
        rfl
      · simp [intOf]
        omega

/-- What the program reckons for a Zig's number. -/
theorem xor_ones (a : Nat) (h : a < 18446744073709551616) : a ^^^ 18446744073709551615 = 18446744073709551615 - a := by
  apply Nat.eq_of_testBit_eq
  intro i
  have e1 : (18446744073709551615 : Nat) = 2 ^ 64 - 1 := by decide
  have e2 : 18446744073709551615 - a = 2 ^ 64 - (a + 1) := by omega
  rw [Nat.testBit_xor, e2, Nat.testBit_two_pow_sub_succ (by simpa using h), e1, Nat.testBit_two_pow_sub_one]
  by_cases hi : i < 64
  · simp [hi]
  · have : a.testBit i = false := Nat.testBit_lt_two_pow (Nat.lt_of_lt_of_le h (by
      have : 2 ^ 64 ≤ 2 ^ i := Nat.pow_le_pow_right (by decide) (by omega)
      simpa using this))
    simp [hi, this]
theorem zig_num (x : Int) (h : -9223372036854775808 ≤ x) (h' : x ≤ 9223372036854775807) : bits .xor .u64 (IntKind.u64.wrap (IntKind.u64.wrap x * 2)) (IntKind.u64.wrap (x / 9223372036854775808)) = (zigzag x : Nat) := by
  have hw : ∀ x : Int, IntKind.u64.wrap x = x % 18446744073709551616 := fun x => by simp [IntKind.wrap, IntKind.bits, IntKind.signed]
  rw [hw, hw, hw]
  unfold zigzag
  split
  · have e1 : x / 9223372036854775808 % 18446744073709551616 = ((18446744073709551615 : Nat) : Int) := by omega
    have e2 : x % 18446744073709551616 * 2 % 18446744073709551616 = ((2 * x + 18446744073709551616).toNat : Int) := by omega
    rw [e1, e2, u64_xor_nat _ _ (by omega) (by decide), xor_ones _ (by omega)]
    omega
  · have e1 : x / 9223372036854775808 % 18446744073709551616 = ((0 : Nat) : Int) := by omega
    have e2 : x % 18446744073709551616 * 2 % 18446744073709551616 = ((2 * x.toNat : Nat) : Int) := by omega
    rw [e1, e2, u64_xor_nat _ _ (by omega) (by decide), Nat.xor_zero]

set_option maxRecDepth 100000 in
theorem wZig_c (b : Nat) (x : Int) (s : Ws) (w : World) (F : List HProp) (H : Holds w (wS q0 q1 q2 b s :: F)) (h : -9223372036854775808 ≤ x) (h' : x ≤ 9223372036854775807) (hL : s.L.length ≤ 10000000000) :
    Calls Try.prog 10 #[.pointer (some ⟨b, 0, none⟩), .int .i64 x] w (Ret w (.tuple #[]) (wS q0 q1 q2 b (s.zig x) :: F)) := by
  go_enter Try.func10, Try.ntmps10
  go_wp2_with fail
  rw [zig_num x h h']
  refine (wVar_c b _ s w F H (zigzag_lt x h h') hL).mono ?_
  rintro e w' ⟨rfl, H', S'⟩
  go_wp2
  go_end0
  exact ⟨rfl, H', S'⟩

set_option maxRecDepth 100000 in
theorem wLen_c (b : Nat) (s : Ws) (w : World) (F : List HProp) (H : Holds w (wS q0 q1 q2 b s :: F)) :
    Calls Try.prog 11 #[.pointer (some ⟨b, 0, none⟩)] w (fun e w' => e = .returned (.int .i64 (s.L.length : Nat)) ∧ w' = w) := by
  obtain ⟨v, H1⟩ := wr_open H
  have c1 := H1.cell 1
  simp at c1
  go_enter Try.func11, Try.ntmps11
  go_wp2
  go_ret
  exact ⟨rfl, rfl⟩
end Go.Proofs.Ytngnfdlkkedaaaa.P0

namespace Go.Proofs.Ytngnfdlkkedaaaa.P0
set_option linter.unusedVariables false
set_option linter.unusedSimpArgs false
open Go.RowKit Go.SL Go.Fm

variable {q0 q1 q2 : Value}
set_option maxRecDepth 100000 in
theorem wDone_ok (b : Nat) (s : Ws) (w : World) (F : List HProp) (H : Holds w (wS q0 q1 q2 b s :: F)) (hb : s.bad = 0) (hL : s.L.length ≤ 10000000000) :
    Calls Try.prog 16 #[.pointer (some ⟨b, 0, none⟩)] w (fun e w' => ∃ v, e = .returned (.tuple #[v, .int .i64 0]) ∧ Holds w' (own 5 1 v (pack s.L).length (bv (pack s.L)) :: wS q0 q1 q2 b s :: F) ∧ Str w w') := by
  obtain ⟨v, H1⟩ := wr_open H
  have c0 := H1.cell 0
  have c2 := H1.cell 2
  simp at c0 c2
  rw [hb] at c2
  go_enter Try.func16, Try.ntmps16
  go_wp2_with (go_at_call 43; refine (clone_c v _ _ w _ H H1.swap.own_is bv_cell (by rw [length_pack]; omega)).mono ?_; rintro e w' ⟨v', rfl, H', S'⟩)
  go_ret2
  exact ⟨v', rfl, H', S'⟩

set_option maxRecDepth 100000 in
theorem wDone_bad (b : Nat) (s : Ws) (w : World) (F : List HProp) (H : Holds w (wS q0 q1 q2 b s :: F)) (hb : s.bad ≠ 0) :
    Calls Try.prog 16 #[.pointer (some ⟨b, 0, none⟩)] w (Ret w (.tuple #[.slice none 0 0, .int .i64 s.bad]) (wS q0 q1 q2 b s :: F)) := by
  obtain ⟨v, H1⟩ := wr_open H
  have c0 := H1.cell 0
  have c2 := H1.cell 2
  simp at c0 c2
  have hb' : ((s.bad : Int) != 0) = true := by simp; omega
  go_enter Try.func16, Try.ntmps16
  go_wp2
  go_quiet (fail)
  rename_i nq
  go_wp2
  go_ret2
  exact ⟨rfl, H, (Str.refl w).drewN _⟩
end Go.Proofs.Ytngnfdlkkedaaaa.P0
