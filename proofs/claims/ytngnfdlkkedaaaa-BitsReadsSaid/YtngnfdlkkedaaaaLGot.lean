/- The laws' got. -/
import Derived.Test.YtngnfdlkkedaaaaLLay2
namespace Go.Proofs.Ytngnfdlkkedaaaa
open Go.RowKit Go.SL Go.Fm
set_option linter.unusedVariables false
set_option linter.unusedSimpArgs false

theorem beq_cast (a b : Nat) : ((a : Int) == (b : Int)) = decide (a = b) := by
  by_cases h : a = b
  · subst h; simp
  · rw [decide_eq_false h]; simp; omega
theorem beq_int (a b : Int) : (a == b) = decide (a = b) := rfl

set_option maxRecDepth 100000 in
set_option maxHeartbeats 4000000 in
theorem got1_c (b : Nat) (o : OpD) (ho : o.ok) (s : Rs) (w : World) (F : List HProp) (H : Holds w (rS b s :: F)) :
    Calls Try.prog 35 #[.pointer (some ⟨b, 0, none⟩), opa o] w (Ret w (.bool (s.got o).1) (rS b (s.got o).2 :: F)) := by
  obtain ⟨d, on, x, n⟩ := o
  obtain ⟨⟨hd1, hd2⟩, _, hx, hn1, hn2⟩ := ho
  simp only at hd1 hd2 hx hn1 hn2
  have HB := (H.alloc (.cells #[.int .i64 d, .int .i64 on, .int .u64 x, .int .i64 n] 37))
  have c2 := HB.cell 2
  have c3 := HB.cell 3
  simp at c2 c3
  have hoc := odd_cond x
  have ha := and_one x hx
  replace hoc := Lib.hid hoc
  replace ha := Lib.hid ha
  unfold opa Rs.got
  simp only
  by_cases h1 : d = 1
  · subst h1
    simp only [reduceIte, Int.reduceEq]
    go_enter Try.func35, Try.ntmps35
    go_upto_region 3 with fail
    go_region_with (go_at_call 36; refine (rBit_c b s _ _ HB.drew.swap).mono ?_; rintro e w1 ⟨rfl, H1, S1⟩; have d2 := H1.swap.cell 2; have d3 := H1.swap.cell 3; simp at d2 d3)
    all_goals
      go_wp2_with fail
      go_ret
      refine ⟨ret_bool ?_, H1.swap.tail, ((Str.refl w).alloc _).drew.trans S1⟩
      first | rfl | (rw [hoc.out]) | (rw [ha.out, hoc.out])
  by_cases h2 : d = 2
  · subst h2
    simp only [reduceIte, Int.reduceEq]
    go_enter Try.func35, Try.ntmps35
    go_upto_region 5 with fail
    go_region_with (go_at_call 19; refine (rBits_c b n s _ _ HB.drew.swap).mono ?_; rintro e w1 ⟨rfl, H1, S1⟩; have d2 := H1.swap.cell 2; have d3 := H1.swap.cell 3; simp at d2 d3)
    all_goals
      go_wp2_with fail
      go_ret
      refine ⟨ret_bool ?_, H1.swap.tail, ((Str.refl w).alloc _).drew.trans S1⟩
      exact beq_cast _ _
  by_cases h3 : d = 3
  · subst h3
    simp only [reduceIte, Int.reduceEq]
    go_enter Try.func35, Try.ntmps35
    go_upto_region 7 with fail
    go_region_with (go_at_call 38; refine (rUnary_c b s _ _ HB.drew.swap).mono ?_; rintro e w1 ⟨rfl, H1, S1⟩; have d2 := H1.swap.cell 2; have d3 := H1.swap.cell 3; simp at d2 d3)
    all_goals
      go_wp2_with fail
      go_ret
      refine ⟨ret_bool ?_, H1.swap.tail, ((Str.refl w).alloc _).drew.trans S1⟩
      exact beq_int _ _
  by_cases h4 : d = 4
  · subst h4
    simp only [reduceIte, Int.reduceEq]
    go_enter Try.func35, Try.ntmps35
    go_upto_region 9 with fail
    go_region_with (go_at_call 39; refine (rVar_c b s _ _ HB.drew.swap).mono ?_; rintro e w1 ⟨rfl, H1, S1⟩; have d2 := H1.swap.cell 2; have d3 := H1.swap.cell 3; simp at d2 d3)
    all_goals
      go_wp2_with fail
      go_ret
      refine ⟨ret_bool ?_, H1.swap.tail, ((Str.refl w).alloc _).drew.trans S1⟩
      exact beq_cast _ _
  · simp only [h1, h2, h3, h4, if_false]
    go_enter Try.func35, Try.ntmps35
    go_upto_region 10 with fail
    go_region_with (go_at_call 40; refine (rZig_c b s _ _ HB.drew.swap).mono ?_; rintro e w1 ⟨rfl, H1, S1⟩; have d2 := H1.swap.cell 2; have d3 := H1.swap.cell 3; simp at d2 d3)
    all_goals
      go_wp2_with fail
      go_ret
      refine ⟨ret_bool ?_, H1.swap.tail, ((Str.refl w).alloc _).drew.trans S1⟩
      rw [IntWalk.i64_left]; exact beq_int _ _
end Go.Proofs.Ytngnfdlkkedaaaa
