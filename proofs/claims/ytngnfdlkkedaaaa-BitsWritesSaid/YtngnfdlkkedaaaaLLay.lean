/- The laws' lay, put, fits, got. -/
import Derived.Test.YtngnfdlkkedaaaaR2
import Derived.Test.YtngnfdlkkedaaaaCodes
import Derived.Test.YtngnfdlkkedaaaaLW
import Derived.Deep.RegionWith
namespace Go.Proofs.Ytngnfdlkkedaaaa
open Go.RowKit Go.SL Go.Fm
set_option linter.unusedVariables false
set_option linter.unusedSimpArgs false

/-- An operation that is handed over. -/
def opa (o : OpD) : Value := .agg #[.int .i64 o.d, .int .i64 o.on, .int .u64 o.x, .int .i64 o.n]

theorem and_one (x : Nat) (hx : x < 18446744073709551616) : bits .and .u64 (x : Int) 1 = (x : Int) % 2 := by
  have hw : ∀ n : Int, 0 ≤ n → n < 2 ^ 64 → IntKind.u64.wrap n = n := fun n a b => IntWalk.u64_in n (by omega)
  exact bits_mask .u64 64 (by decide) hw 1 (by decide) _ (by omega) (by omega)
theorem odd_cond (x : Nat) : ((x : Int) % 2 == 1) = decide (x % 2 = 1) := by
  have e : (x : Int) % 2 = ((x % 2 : Nat) : Int) := by omega
  rw [e]
  rcases Nat.mod_two_eq_zero_or_one x with h | h <;> rw [h] <;> decide

set_option maxRecDepth 100000 in
theorem lay1_c (b c : Nat) (o : OpD) (ho : o.ok) (s t : Ws) (w : World) (F : List HProp) (H : Holds w (wS b s :: fS c t :: F)) (hs : s.L.length ≤ 1000000000) (ht : t.L.length ≤ 1000000000) :
    Calls Try.prog 22 #[.pointer (some ⟨b, 0, none⟩), .pointer (some ⟨c, 0, none⟩), opa o] w (Ret w (.tuple #[]) (wS b (s.lay o) :: fS c (t.lay o) :: F)) := by
  obtain ⟨d, on, x, n⟩ := o
  obtain ⟨⟨hd1, hd2⟩, _, hx, hn1, hn2⟩ := ho
  simp only at hd1 hd2 hx hn1 hn2
  have HB := (H.alloc (.cells #[.int .i64 d, .int .i64 on, .int .u64 x, .int .i64 n] 37)).swap
  have hoc := odd_cond x
  have ha := and_one x hx
  replace hoc := Lib.hid hoc
  replace ha := Lib.hid ha
  have hz := i64_range x
  unfold Ws.lay opa
  simp only
  by_cases h1 : d = 1
  · subst h1
    simp only [reduceIte, Int.reduceEq]
    go_enter Try.func22, Try.ntmps22
    go_wp2_with fail
    first | rw [hoc.out] | rw [ha.out, hoc.out]
    refine (wBit_c b _ s _ _ HB (by omega)).mono ?_
    rintro e w1 ⟨rfl, H1, S1⟩
    have d0 := H1.swap.cell 0
    have d2 := H1.swap.cell 2
    have d3 := H1.swap.cell 3
    simp at d0 d2 d3
    go_wp2_with fail
    first | rw [hoc.out] | rw [ha.out, hoc.out]
    refine (rwBit_c c _ t _ _ H1.pull2 (by omega)).mono ?_
    rintro e w2 ⟨rfl, H2, S2⟩
    go_wp2_with fail
    go_end0
    exact ⟨rfl, H2.swap.pull2.tail, (((Str.refl w).alloc _).trans S1).trans S2⟩
  by_cases h2 : d = 2
  · subst h2
    simp only [reduceIte, Int.reduceEq]
    go_enter Try.func22, Try.ntmps22
    go_wp2_with fail
    refine (wBits_c b _ n s _ _ HB (by omega) (by omega) (by omega)).mono ?_
    rw [Int.toNat_natCast]
    rintro e w1 ⟨rfl, H1, S1⟩
    have d0 := H1.swap.cell 0
    have d2 := H1.swap.cell 2
    have d3 := H1.swap.cell 3
    simp at d0 d2 d3
    go_wp2_with fail
    refine (rwBits_c c x n t _ _ H1.pull2 hx (by omega)).mono ?_
    rintro e w2 ⟨rfl, H2, S2⟩
    go_wp2_with fail
    go_end0
    exact ⟨rfl, H2.swap.pull2.tail, (((Str.refl w).alloc _).trans S1).trans S2⟩
  by_cases h3 : d = 3
  · subst h3
    simp only [reduceIte, Int.reduceEq]
    go_enter Try.func22, Try.ntmps22
    go_wp2_with fail
    refine (wUnary_c b n s _ _ HB (by omega)).mono ?_
    rintro e w1 ⟨rfl, H1, S1⟩
    have d0 := H1.swap.cell 0
    have d2 := H1.swap.cell 2
    have d3 := H1.swap.cell 3
    simp at d0 d2 d3
    go_wp2_with fail
    refine (rwUnary_c c n t _ _ H1.pull2 (by omega)).mono ?_
    rintro e w2 ⟨rfl, H2, S2⟩
    go_wp2_with fail
    go_end0
    exact ⟨rfl, H2.swap.pull2.tail, (((Str.refl w).alloc _).trans S1).trans S2⟩
  by_cases h4 : d = 4
  · subst h4
    simp only [reduceIte, Int.reduceEq]
    go_enter Try.func22, Try.ntmps22
    go_wp2_with fail
    refine (wVar_c b x s _ _ HB hx (by omega)).mono ?_
    rintro e w1 ⟨rfl, H1, S1⟩
    have d0 := H1.swap.cell 0
    have d2 := H1.swap.cell 2
    have d3 := H1.swap.cell 3
    simp at d0 d2 d3
    go_wp2_with fail
    refine (rwVar_c c x t _ _ H1.pull2 hx (by omega)).mono ?_
    rintro e w2 ⟨rfl, H2, S2⟩
    go_wp2_with fail
    go_end0
    exact ⟨rfl, H2.swap.pull2.tail, (((Str.refl w).alloc _).trans S1).trans S2⟩
  by_cases h5 : d = 5
  · subst h5
    simp only [reduceIte, Int.reduceEq]
    go_enter Try.func22, Try.ntmps22
    go_wp2_with fail
    rw [← IntWalk.i64_left]
    refine (wZig_c b (IntKind.i64.wrap x) s _ _ HB hz.1 hz.2 (by omega)).mono ?_
    rintro e w1 ⟨rfl, H1, S1⟩
    have d0 := H1.swap.cell 0
    have d2 := H1.swap.cell 2
    have d3 := H1.swap.cell 3
    simp at d0 d2 d3
    go_wp2_with fail
    rw [← IntWalk.i64_left]
    refine (rwZig_c c (IntKind.i64.wrap x) t _ _ H1.pull2 hz.1 hz.2 (by omega)).mono ?_
    rintro e w2 ⟨rfl, H2, S2⟩
    go_wp2_with fail
    go_end0
    exact ⟨rfl, H2.swap.pull2.tail, (((Str.refl w).alloc _).trans S1).trans S2⟩
  go_enter Try.func22, Try.ntmps22
  simp only [h1, h2, h3, h4, h5, if_false]
  go_wp2_with fail
  go_end0
  exact ⟨rfl, H.alloc' _, (Str.refl w).alloc _⟩
end Go.Proofs.Ytngnfdlkkedaaaa
