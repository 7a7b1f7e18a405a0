/- Done inside pairs. Done inside pairs, refused or not. done. -/
import Derived.Test.YtngnfdlkkedaaaaR1p0
import Derived.Test.YtngnfdlkkedaaaaLLate1
import Derived.Test.YtngnfdlkkedaaaaBWp0
import Derived.Test.YtngnfdlkkedaaaaLLate5
import Derived.Test.YtngnfdlkkedaaaaLW
import Derived.BigQuiet
import Derived.WalkSpells
namespace Go.Proofs.Ytngnfdlkkedaaaa.P0
set_option linter.unusedVariables false
set_option linter.unusedSimpArgs false
open Go.RowKit Go.SL Go.Fm
/-- The document's writer, its slice named. -/
def fX (vx r0 r1 : Value) (b : Nat) (s : Ws) : HProp := sep (pts b (.cells #[vx, .int .i64 (s.bad : Nat), r0, r1] 52 (0, 0))) (own 5 1 vx s.L.length (bv (nums s.L)))
variable {r0 r1 vx : Value}
theorem fX_open {b : Nat} {s : Ws} {w : World} {F : List HProp} (h : Holds w (fX vx r0 r1 b s :: F)) : Holds w (pts b (.cells #[vx, .int .i64 (s.bad : Nat), r0, r1] 52 (0, 0)) :: own 5 1 vx s.L.length (bv (nums s.L)) :: F) := h.split
theorem fX_shut {b : Nat} {s : Ws} {w : World} {F : List HProp} (h : Holds w (pts b (.cells #[vx, .int .i64 (s.bad : Nat), r0, r1] 52 (0, 0)) :: own 5 1 vx s.L.length (bv (nums s.L)) :: F)) : Holds w (fX vx r0 r1 b s :: F) := h.unsplit
set_option maxRecDepth 100000 in
theorem rwDone_ok (b : Nat) (s : Ws) (w : World) (F : List HProp) (H : Holds w (fX vx r0 r1 b s :: F)) (hb : s.bad = 0) (hL : s.L.length ≤ 10000000000) :
    Calls Try.prog 51 #[.pointer (some ⟨b, 0, none⟩)] w (fun e w' => ∃ v, e = .returned (.tuple #[v, .int .i64 0]) ∧ Holds w' (own 5 1 v (pack s.L).length (bv (pack s.L)) :: fX vx r0 r1 b s :: F) ∧ Str w w') := by
  have H1 := fX_open H
  have c0 := H1.cell 0
  have c1 := H1.cell 1
  simp at c0 c1
  rw [hb] at c1
  go_enter Try.func51, Try.ntmps51
  go_wp2_with (go_at_call 67; refine (rwPack_c vx s.L w _ H1 (fun w' h => h.swap.own_is) hL).mono ?_; rintro e w' ⟨v', rfl, H', S'⟩)
  go_ret2
  refine ⟨v', rfl, ?_, S'⟩
  have H2 := Holds.ord (l := [_, _, _]) H' [1, 2, 0] rfl
  simp only [List.map, List.getD_cons_zero, List.getD_cons_succ, List.cons_append, List.nil_append] at H2
  exact (fX_shut H2).swap

set_option maxRecDepth 100000 in
theorem rwDone_bad (b : Nat) (s : Ws) (w : World) (F : List HProp) (H : Holds w (fX vx r0 r1 b s :: F)) (hb : s.bad ≠ 0) :
    Calls Try.prog 51 #[.pointer (some ⟨b, 0, none⟩)] w (Ret w (.tuple #[.slice none 0 0, .int .i64 s.bad]) (fX vx r0 r1 b s :: F)) := by
  have H1 := fX_open H
  have c0 := H1.cell 0
  have c1 := H1.cell 1
  simp at c0 c1
  have hb' : ((s.bad : Int) != 0) = true := by simp; omega
  go_enter Try.func51, Try.ntmps51
  go_wp2
  go_quiet (fail)
  rename_i nq
  go_wp2
  go_ret2
  exact ⟨rfl, H, (Str.refl w).drewN _⟩
end Go.Proofs.Ytngnfdlkkedaaaa.P0

namespace Go.Proofs.Ytngnfdlkkedaaaa.P0
set_option linter.unusedVariables false
set_option linter.unusedSimpArgs false
open Go.RowKit Go.SL Go.Fm
variable {q0 q1 q2 r0 r1 vx : Value}
/-- What Done hands out. -/
def outB (s : Ws) : List Nat := if s.bad = 0 then pack s.L else []
theorem wDone_all (b : Nat) (s : Ws) (w : World) (F : List HProp) (H : Holds w (wS q0 q1 q2 b s :: F)) (hL : s.L.length ≤ 10000000000) :
    Calls Try.prog 16 #[.pointer (some ⟨b, 0, none⟩)] w (fun e w' => ∃ v, e = .returned (.tuple #[v, .int .i64 s.bad]) ∧ Holds w' (own 5 1 v (outB s).length (bv (outB s)) :: wS q0 q1 q2 b s :: F) ∧ Str w w') := by
  unfold outB
  by_cases hb : s.bad = 0
  · rw [if_pos hb]
    refine (wDone_ok b s w F H hb hL).mono ?_
    rintro e w' ⟨v, rfl, H', S'⟩
    exact ⟨v, by rw [hb]; rfl, H', S'⟩
  · rw [if_neg hb]
    refine (wDone_bad b s w F H hb).mono ?_
    rintro e w' ⟨rfl, H', S'⟩
    exact ⟨_, rfl, H'.own_nil, S'⟩
theorem rwDone_all (b : Nat) (s : Ws) (w : World) (F : List HProp) (H : Holds w (fX vx r0 r1 b s :: F)) (hL : s.L.length ≤ 10000000000) :
    Calls Try.prog 51 #[.pointer (some ⟨b, 0, none⟩)] w (fun e w' => ∃ v, e = .returned (.tuple #[v, .int .i64 s.bad]) ∧ Holds w' (own 5 1 v (outB s).length (bv (outB s)) :: fX vx r0 r1 b s :: F) ∧ Str w w') := by
  unfold outB
  by_cases hb : s.bad = 0
  · rw [if_pos hb]
    refine (rwDone_ok b s w F H hb hL).mono ?_
    rintro e w' ⟨v, rfl, H', S'⟩
    exact ⟨v, by rw [hb]; rfl, H', S'⟩
  · rw [if_neg hb]
    refine (rwDone_bad b s w F H hb).mono ?_
    rintro e w' ⟨rfl, H', S'⟩
    exact ⟨_, rfl, H'.own_nil, S'⟩
end Go.Proofs.Ytngnfdlkkedaaaa.P0

namespace Go.Proofs.Ytngnfdlkkedaaaa.P0
set_option linter.unusedVariables false
set_option linter.unusedSimpArgs false
open Go.RowKit Go.SL Go.Fm
variable {q0 q1 q2 r0 r1 vx : Value}
theorem slice_shape {w : World} {s n : Nat} {v : Value} {xs : List Value} (h : SliceIs w s v n xs) : ∃ a c, v = .slice a n c := by
  rcases h.2 with ⟨h, h'⟩ | ⟨a, c, h, _⟩
  · rw [h, h']; exact ⟨_, _, rfl⟩
  · exact ⟨_, _, h⟩
theorem outB_lt (s : Ws) : ∀ x ∈ outB s, x < 256 := by
  unfold outB
  split
  · exact pack_lt s.L
  · simp
theorem outB_len (s : Ws) : (outB s).length ≤ s.L.length := by
  unfold outB
  split
  · rw [length_pack]; omega
  · simp
set_option maxRecDepth 100000 in
set_option maxHeartbeats 4000000 in
theorem done_c (b c d : Nat) (s : Ws) (es : List Lt) (w : World) (F : List HProp) (H : Holds w (wS q0 q1 q2 b s :: fX vx r0 r1 c s :: lateL d es :: F)) (hL : s.L.length ≤ 1000000000) (hes : es.length ≤ 90000) :
    Calls Try.prog 23 #[.pointer (some ⟨b, 0, none⟩), .pointer (some ⟨c, 0, none⟩), .pointer (some ⟨d, 0, none⟩)] w (fun e w' => e = .returned (.bool true) ∧ ∃ es' : List Lt, (es'.length = es.length + 2 ∧ ∀ e ∈ es', e ∈ es ∨ e.B = outB s) ∧ Holds w' (wS q0 q1 q2 b s :: fX vx r0 r1 c s :: lateL d es' :: F) ∧ Str w w') := by
  have hlt := outB_lt s
  have hln := outB_len s
  go_enter Try.func23, Try.ntmps23
  go_wp2_with (go_at_call 16; with_reducible refine (wDone_all b s _ _ H (by omega)).mono ?_; rintro e w1 ⟨v1, rfl, H1, S1⟩)
  go_wp2_with (go_at_call 16; with_reducible refine (wDone_all b s _ _ H1.swap (by omega)).mono ?_; rintro e w2 ⟨v2, rfl, H2, S2⟩)
  have H2' := Holds.ord (l := [_, _, _, _, _]) H2 [3, 0, 1, 2, 4] rfl
  simp only [List.map, List.getD_cons_zero, List.getD_cons_succ, List.cons_append, List.nil_append] at H2'
  go_wp2_with (go_at_call 51; with_reducible refine (rwDone_all c s _ _ H2' (by omega)).mono ?_; rintro e w3 ⟨v3, rfl, H3, S3⟩)
  have H3' := Holds.ord (l := [_, _, _, _, _, _]) H3 [5, 4, 0, 1, 2, 3] rfl
  simp only [List.map, List.getD_cons_zero, List.getD_cons_succ, List.cons_append, List.nil_append] at H3'
  go_wp2_with (go_at_call 52; with_reducible refine (lateAdd_c d es v1 v3 (outB s) _ _ H3' sees_own hlt (by omega) (by omega)).mono ?_; rintro e w4 ⟨rfl, u4, H4, S4⟩)
  have H4' := Holds.ord (l := [_, _, _, _, _]) H4 [0, 3, 1, 2, 4] rfl
  simp only [List.map, List.getD_cons_zero, List.getD_cons_succ, List.cons_append, List.nil_append] at H4'
  go_wp2_with (go_at_call 52; with_reducible refine (lateAdd_c d _ v2 v3 (outB s) _ _ H4' sees_own hlt (by rw [List.length_append, List.length_singleton]; omega) (by omega)).mono ?_; rintro e w5 ⟨rfl, u5, H5, S5⟩)
  obtain ⟨es2, he2⟩ : ∃ es2, es2 = es ++ [⟨v1, u4, outB s⟩] ++ [⟨v2, u5, outB s⟩] := ⟨_, rfl⟩
  rw [← he2] at H5
  have hm1 : (⟨v1, u4, outB s⟩ : Lt) ∈ es2 := by rw [he2]; simp
  have hm2 : (⟨v2, u5, outB s⟩ : Lt) ∈ es2 := by rw [he2]; simp
  have hend : es2.length = es.length + 2 ∧ ∀ e ∈ es2, e ∈ es ∨ e.B = outB s := by
    rw [he2]
    refine ⟨by simp, fun e he => ?_⟩
    simp only [List.mem_append, List.mem_singleton] at he
    rcases he with (he | he) | he
    · exact .inl he
    · exact .inr (by rw [he])
    · exact .inr (by rw [he])
  replace he2 := Lib.hid he2
  replace hend := Lib.hid hend
  obtain ⟨vl, ul, H6⟩ := lateL_open H5
  have H7 := Holds.ord (l := [_, _, _, _]) H6 [3, 0, 1, 2] rfl
  have i1 : SliceIs w5 1 v1 (outB s).length (bv (outB s)) := (two_is H7 hm1).1
  have i2 : SliceIs w5 1 v2 (outB s).length (bv (outB s)) := (two_is H7 hm2).1
  have i3 : SliceIs w5 1 v3 (outB s).length (bv (outB s)) := H5.swap.own_is
  obtain ⟨a1, k1, rfl⟩ := slice_shape i1
  obtain ⟨a2, k2, rfl⟩ := slice_shape i2
  obtain ⟨a3, k3, rfl⟩ := slice_shape i3
  have j1 : ∀ n, SliceIs (w5.drewN n) 1 (.slice a1 (outB s).length k1) (outB s).length (bv (outB s)) := fun n => i1
  have j2 : ∀ n, SliceIs (w5.drewN n) 1 (.slice a2 (outB s).length k2) (outB s).length (bv (outB s)) := fun n => i2
  have j3 : ∀ n, SliceIs (w5.drewN n) 1 (.slice a3 (outB s).length k3) (outB s).length (bv (outB s)) := fun n => i3
  have g1 := fun n => conv_str (P := Try.prog) Try.underlying25 Try.underlying5 Try.underlying9 (j1 n)
  have g2 := fun n => conv_str (P := Try.prog) Try.underlying25 Try.underlying5 Try.underlying9 (j2 n)
  have g3 := fun n => conv_str (P := Try.prog) Try.underlying25 Try.underlying5 Try.underlying9 (j3 n)
  have kL := fun n => wLen_c b s (w5.drewN n) _ (H5.pull3.drewN n)
  have H8 := fX_open H5.pull2
  obtain ⟨af, kf, rfl⟩ := own_shape H8.swap
  have z0 := H8.cell 0
  simp at z0
  clear H1 H2 H2' H3 H3' H4 H4' H6 H7 H8 hm1 hm2 i1 i2 i3 j1 j2 j3
  replace H5 := Lib.hid H5
  go_quiet (first | (go_at_call 17; exact num_q _ _ _) | (go_at_call 11; exact Calls.quiet_of_same (kL _)))
  rename_i nq
  go_wp2_with fail
  go_ret
  have H9 := Holds.ord (l := [_, _, _, _]) (H5.out.drewN nq) [1, 3, 2, 0] rfl
  simp only [List.map, List.getD_cons_zero, List.getD_cons_succ, List.cons_append, List.nil_append] at H9
  exact ⟨rfl, es2, hend.out, H9.tail, ((((S1.trans S2).trans S3).trans S4).trans S5).drewN _⟩
end Go.Proofs.Ytngnfdlkkedaaaa.P0
