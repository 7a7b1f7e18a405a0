/- The laws' put, fits, got. -/
import Derived.Test.YtngnfdlkkedaaaaLLay
namespace Go.Proofs.Ytngnfdlkkedaaaa
open Go.RowKit Go.SL Go.Fm
set_option linter.unusedVariables false
set_option linter.unusedSimpArgs false

set_option maxRecDepth 100000 in
theorem put1_c (b : Nat) (o : OpD) (ho : o.ok) (s : Ws) (w : World) (F : List HProp) (H : Holds w (wS b s :: F)) (hs : s.L.length ≤ 1000000000) :
    Calls Try.prog 34 #[.pointer (some ⟨b, 0, none⟩), opa o] w (Ret w (.tuple #[]) (wS b (s.lay o) :: F)) := by
  have HB := new_rwriter (H.alloc (.cells #[.int .i64 o.d, .int .i64 o.on, .int .u64 o.x, .int .i64 o.n] 37))
  simp only [World.size_alloc] at HB
  obtain ⟨d, on, x, n⟩ := o
  have hk := lay1_c b (w.heap.size + 1) ⟨d, on, x, n⟩ ho s ⟨[], 0⟩
  replace hk := Lib.hid hk
  unfold opa
  clear ho
  go_enter Try.func34, Try.ntmps34
  go_wp2_with fail
  refine (hk.out _ _ HB.pull2 hs (by simp)).mono ?_
  rintro e w2 ⟨rfl, H2, S2⟩
  go_wp2_with fail
  go_end0
  exact ⟨rfl, H2.pull2.tail.swap.tail, (((Str.refl w).alloc _).alloc _).trans S2⟩

theorem shift_fit (x n : Nat) (hx : x < 18446744073709551616) (hn : n < 64) : ((x : Int) / 2 ^ n == 0) = decide (x < 2 ^ n) := by
  have e : ((x : Int) / 2 ^ n) = ((x / 2 ^ n : Nat) : Int) := by simp
  rw [e]
  by_cases h : x < 2 ^ n
  · rw [Nat.div_eq_of_lt h, decide_eq_true h]; rfl
  · have := Nat.div_pos (show 2 ^ n ≤ x by omega) (Nat.two_pow_pos n)
    rw [decide_eq_false h]
    simp only [beq_eq_false_iff_ne, ne_eq]
    omega

theorem fits2 (x : Nat) (hx : x < 18446744073709551616) (n : Int) (h0 : 0 ≤ n) (h1 : n ≤ 64) (h2 : ¬ n = 64) : decide (0 ≤ n ∧ n ≤ 64 ∧ x < 2 ^ n.toNat) = ((x : Int) / 2 ^ n.toNat == 0) := by
  rw [shift_fit x n.toNat hx (by omega)]
  by_cases h : x < 2 ^ n.toNat
  · rw [decide_eq_true h, decide_eq_true ⟨h0, h1, h⟩]
  · rw [decide_eq_false h, decide_eq_false (fun k => h k.2.2)]

set_option maxRecDepth 100000 in
theorem fits1_c (o : OpD) (ho : o.ok) (w : World) (F : List HProp) (H : Holds w F) :
    Calls Try.prog 33 #[opa o] w (Ret w (.bool o.fits) F) := by
  obtain ⟨d, on, x, n⟩ := o
  obtain ⟨⟨hd1, hd2⟩, _, hx, hn1, hn2⟩ := ho
  simp only at hd1 hd2 hx hn1 hn2
  unfold opa Go.SL.OpD.fits
  simp only
  have HA := H.alloc' (.cells #[.int .i64 d, .int .i64 on, .int .u64 x, .int .i64 n] 37)
  have SA := (Str.refl w).alloc (.cells #[.int .i64 d, .int .i64 on, .int .u64 x, .int .i64 n] 37)
  by_cases h2 : d = 2
  · subst h2
    rw [if_pos rfl]
    by_cases c0 : 0 ≤ n
    · by_cases c1 : n ≤ 64
      · by_cases c2 : n = 64
        · subst c2
          rw [decide_eq_true (show (0 : Int) ≤ 64 ∧ (64 : Int) ≤ 64 ∧ x < 2 ^ (64 : Int).toNat from ⟨by omega, by omega, hx⟩)]
          go_enter Try.func33, Try.ntmps33
          go_wp2
          go_ret
          exact ⟨ret_bool rfl, HA, SA⟩
        · have hk := fits2 x hx n c0 c1 c2
          rw [hk]
          replace hk := Lib.hid hk
          go_enter Try.func33, Try.ntmps33
          go_wp2
          go_ret
          refine ⟨ret_bool ?_, HA, SA⟩
          have : (n == 64) = false := by simpa using c2
          rw [this, Bool.false_or]
      · rw [decide_eq_false (by omega)]
        go_enter Try.func33, Try.ntmps33
        go_wp2
        refine bodyPost_ret (results_tmp rfl _ _ _) rfl ⟨rfl, HA, SA⟩
    · rw [decide_eq_false (by omega)]
      go_enter Try.func33, Try.ntmps33
      go_wp2
      refine bodyPost_ret (results_tmp rfl _ _ _) rfl ⟨rfl, HA, SA⟩
  · rw [if_neg h2]
    by_cases h3 : d = 3
    · subst h3
      rw [if_pos rfl]
      by_cases c0 : 0 ≤ n
      · by_cases c1 : n ≤ 64
        · rw [decide_eq_true ⟨c0, c1⟩]
          go_enter Try.func33, Try.ntmps33
          go_wp2
          refine bodyPost_ret (results_tmp rfl _ _ _) rfl ⟨rfl, HA, SA⟩
        · rw [decide_eq_false (by omega)]
          go_enter Try.func33, Try.ntmps33
          go_wp2
          refine bodyPost_ret (results_tmp rfl _ _ _) rfl ⟨rfl, HA, SA⟩
      · rw [decide_eq_false (by omega)]
        go_enter Try.func33, Try.ntmps33
        go_wp2
        refine bodyPost_ret (results_tmp rfl _ _ _) rfl ⟨rfl, HA, SA⟩
    · rw [if_neg h3]
      by_cases c0 : 1 ≤ d
      · by_cases c1 : d ≤ 5
        · rw [decide_eq_true ⟨c0, c1⟩]
          go_enter Try.func33, Try.ntmps33
          go_wp2
          refine bodyPost_ret (results_tmp rfl _ _ _) rfl ⟨rfl, HA, SA⟩
        · rw [decide_eq_false (by omega)]
          go_enter Try.func33, Try.ntmps33
          go_wp2
          refine bodyPost_ret (results_tmp rfl _ _ _) rfl ⟨rfl, HA, SA⟩
      · rw [decide_eq_false (by omega)]
        go_enter Try.func33, Try.ntmps33
        go_wp2
        refine bodyPost_ret (results_tmp rfl _ _ _) rfl ⟨rfl, HA, SA⟩
end Go.Proofs.Ytngnfdlkkedaaaa
