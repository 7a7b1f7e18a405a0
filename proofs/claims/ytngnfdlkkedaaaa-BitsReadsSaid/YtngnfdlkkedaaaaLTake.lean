/- The laws' take. -/
import Derived.Test.YtngnfdlkkedaaaaR7
import Derived.Test.YtngnfdlkkedaaaaLGot
namespace Go.Proofs.Ytngnfdlkkedaaaa
open Go.RowKit Go.SL Go.Fm
set_option linter.unusedVariables false
set_option linter.unusedSimpArgs false

/-- What is left behind a take. -/
def _root_.Go.Fm.Rs.took (s : Rs) (o : OpD) : Rs :=
  if o.d = 1 then s.bit.2 else if o.d = 2 then (s.bits o.n).2 else if o.d = 3 then s.unary.2 else if o.d = 4 then s.var.2 else if o.d = 5 then s.zig.2 else s

set_option maxRecDepth 100000 in
set_option maxHeartbeats 4000000 in
theorem take1_c (a b : Nat) (o : OpD) (ho : o.ok) (s : Rs) (w : World) (F : List HProp) (H : Holds w (rS a s :: qS b s :: F)) :
    Calls Try.prog 30 #[.pointer (some ⟨a, 0, none⟩), .pointer (some ⟨b, 0, none⟩), opa o] w (Ret w (.bool true) (rS a (s.took o) :: qS b (s.took o) :: F)) := by
  obtain ⟨d, on, x, n⟩ := o
  obtain ⟨⟨hd1, hd2⟩, _, hx, hn1, hn2⟩ := ho
  simp only at hd1 hd2 hx hn1 hn2
  have HB := (H.alloc (.cells #[.int .i64 d, .int .i64 on, .int .u64 x, .int .i64 n] 37))
  have c3 := HB.cell 3
  simp at c3
  unfold opa Rs.took
  simp only
  by_cases h1 : d = 1
  · subst h1
    simp only [reduceIte, Int.reduceEq]
    go_enter Try.func30, Try.ntmps30
    go_wp2_with (first | (go_at_call 36; refine (rBit_c a s _ _ HB.swap).mono ?_; rintro e w1 ⟨rfl, H1, S1⟩) | (go_at_call 58; refine (rrBit_c b s _ _ H1.pull2).mono ?_; rintro e w2 ⟨rfl, H2, S2⟩))
    refine bodyPost_ret (results_tmp rfl _ _ _) rfl ⟨rfl, (H2.swap.pull2).tail, (((Str.refl w).alloc _).trans S1).trans S2⟩
  by_cases h2 : d = 2
  · subst h2
    simp only [reduceIte, Int.reduceEq]
    go_enter Try.func30, Try.ntmps30
    go_upto_region 5 with fail
    go_region_with (first | (go_at_call 19; refine (rBits_c a n s _ _ H1.pull2).mono ?_; rintro e w2 ⟨rfl, H2, S2⟩; have d3 := H2.pull2.cell 3; simp at d3) | (go_at_call 19; refine (rBits_c a n s _ _ HB.drew.swap).mono ?_; rintro e w1 ⟨rfl, H1, S1⟩; have d3 := H1.swap.cell 3; simp at d3) | (go_at_call 59; refine (rrBits_c b n s _ _ H1.pull2).mono ?_; rintro e w2 ⟨rfl, H2, S2⟩; have d3 := H2.pull2.cell 3; simp at d3) | (go_at_call 59; refine (rrBits_c b n s _ _ HB.drew.pull2).mono ?_; rintro e w1 ⟨rfl, H1, S1⟩; have d3 := H1.swap.cell 3; simp at d3))
    all_goals
      go_wp2_with fail
      refine bodyPost_ret (results_tmp rfl _ _ _) rfl ⟨rfl, ?_, (((Str.refl w).alloc _).drew.trans S1).trans S2⟩
      first | exact (H2.swap.pull2).tail | exact (H2.pull2).tail
  by_cases h3 : d = 3
  · subst h3
    simp only [reduceIte, Int.reduceEq]
    go_enter Try.func30, Try.ntmps30
    go_wp2_with (first | (go_at_call 38; refine (rUnary_c a s _ _ HB.swap).mono ?_; rintro e w1 ⟨rfl, H1, S1⟩) | (go_at_call 60; refine (rrUnary_c b s _ _ H1.pull2).mono ?_; rintro e w2 ⟨rfl, H2, S2⟩))
    refine bodyPost_ret (results_tmp rfl _ _ _) rfl ⟨rfl, (H2.swap.pull2).tail, (((Str.refl w).alloc _).trans S1).trans S2⟩
  by_cases h4 : d = 4
  · subst h4
    simp only [reduceIte, Int.reduceEq]
    go_enter Try.func30, Try.ntmps30
    go_wp2_with (first | (go_at_call 39; refine (rVar_c a s _ _ HB.swap).mono ?_; rintro e w1 ⟨rfl, H1, S1⟩) | (go_at_call 61; refine (rrVar_c b s _ _ H1.pull2).mono ?_; rintro e w2 ⟨rfl, H2, S2⟩))
    refine bodyPost_ret (results_tmp rfl _ _ _) rfl ⟨rfl, (H2.swap.pull2).tail, (((Str.refl w).alloc _).trans S1).trans S2⟩
  by_cases h5 : d = 5
  · subst h5
    simp only [reduceIte, Int.reduceEq]
    go_enter Try.func30, Try.ntmps30
    go_wp2_with (first | (go_at_call 40; refine (rZig_c a s _ _ HB.swap).mono ?_; rintro e w1 ⟨rfl, H1, S1⟩) | (go_at_call 62; refine (rrZig_c b s _ _ H1.pull2).mono ?_; rintro e w2 ⟨rfl, H2, S2⟩))
    refine bodyPost_ret (results_tmp rfl _ _ _) rfl ⟨rfl, (H2.swap.pull2).tail, (((Str.refl w).alloc _).trans S1).trans S2⟩
  have e1 : (d == 1) = false := by simpa using h1
  have e2 : (d == 2) = false := by simpa using h2
  have e3 : (d == 3) = false := by simpa using h3
  have e4 : (d == 4) = false := by simpa using h4
  have e5 : (d == 5) = false := by simpa using h5
  go_enter Try.func30, Try.ntmps30
  go_wp2_with fail
  refine bodyPost_ret (results_tmp rfl _ _ _) rfl ?_
  exact ⟨rfl, HB.tail, (Str.refl w).alloc _⟩
end Go.Proofs.Ytngnfdlkkedaaaa
