/- For all bytes for two readers and every row of operations the law BitsReads returns true and leaves its argument as it was. No condition. -/
import Derived.Test.YtngnfdlkkedaaaaRows
import Derived.Test.YtngnfdlkkedaaaaReads2
import Derived.Test.YtngnfdlkkedaaaaLTop
import Derived.Test.YtngnfdlkkedaaaaLReads
import Derived.ShutString
import Derived.Below
namespace Go.Proofs.Ytngnfdlkkedaaaa.bitsReads
set_option linter.unusedSimpArgs false
open Go.ChangeShapes Go.WideShapes Go.ChangeAt Go.RowKit Go.SL Go.Fm
open Go.ChangeMaps (open_string shut_string)
set_option linter.unusedVariables false

theorem own : ownKnob Try.prog.godebug = none := by kernel_rfl
theorem laidOut : laidOutB Try.prog = true := by kernel_rfl

theorem walk (v0 v1 v2 : Value) (A B : List Nat) (l : List OpD) (w : World) (hA : ∀ x ∈ A, x < 256) (hB : ∀ x ∈ B, x < 256) (hl : ∀ o ∈ l, o.ok)
    (hs0 : SliceIs w 1 v0 A.length (bv A)) (hs1 : SliceIs w 1 v1 B.length (bv B)) (hs2 : SliceIs w 4 v2 l.length (opsv l)) :
    Calls Try.prog 6 #[.agg #[v0, v1, v2]] w fun e w' => e = .returned (.bool true) ∧ Below w.heap.size w w' := by
  refine (BitsReads_c v0 v1 v2 A B l w _ (Holds.start w) hA hB hl (sees_start hs0) (sees_start hs1) (sees_start hs2)).mono ?_
  rintro e w' ⟨he, H, S⟩
  exact ⟨he, below_of_holds (l := []) H S⟩

theorem opType : ∃ fs, OpType Try.prog 37 fs := ⟨_, Try.underlying37, by kernel_rfl, rfl, by kernel_rfl, by kernel_rfl, by kernel_rfl, by kernel_rfl, by kernel_rfl⟩
theorem readsType : ∃ fs f0 f1, ReadsType Try.prog 89 87 25 5 34 37 fs f0 f1 :=
  ⟨_, _, _, Try.underlying89, Try.underlying87, Try.underlying25, Try.underlying5, by kernel_rfl, by kernel_rfl, by kernel_rfl, by kernel_rfl, Try.underlying34, opType.choose_spec, rfl, rfl, rfl, rfl⟩

/-! ### THE ROW's STEP: WRITTEN OUT: LEAVE IT -/
set_option maxRecDepth 100000 in
theorem lifted (os : Os) (started : os.Started) (H : Type) (enc : TypeId × Value → H) :
    ReturnsInHanded {} Try.checked os 6 .any (Rows.bitsReadsSpec.pre6 enc Try.prog Try.f6 Rows.bitsReadsRow.domain false) (Rows.bitsReadsSpec.post enc Try.prog Try.f6 false true false false) := by
  refine returnsInHanded_of_change (C := Try.checked) own started (by kernel_rfl) Try.func6
    (ChangeSpec.witness6 (enc := enc) (C := Try.checked) false ⟨#[], #[.agg #[.slice none 0 0, .slice none 0 0, .slice none 0 0]], []⟩ 8 (by kernel_rfl) (by kernel_rfl) (by kernel_rfl) (by kernel_rfl)) ?_
  intro W base args ds gs before hval0 hW hcnd _
  have hval : ∀ (j : Nat) t v, Try.f6.params[j]? = some t → args[j]? = some v → Value.okWide Try.prog W .any base t v := hval0
  have hW' := hW
  obtain ⟨p, q, hA0, hV, rfl, hfz, hnd⟩ := hW
  have hA : DataW.TrodAll enc Try.prog W 0 (fun _ => true) true Try.f6.params.toList args.toList ds p := hA0
  rw [Try.params6] at hA hval
  obtain ⟨v0, vs0, d0, ds0, p0, q0, hargs, rfl, rfl, h0, r0⟩ := trodAll_cons hA
  obtain ⟨rfl, rfl, rfl⟩ := trodAll_nil r0
  obtain rfl : args = #[v0] := by cases args; simp_all
  obtain ⟨rfl, rfl⟩ := trodVars_none hV
  obtain ⟨cs0, rfl, hc0⟩ := okWide_struct Try.underlying89 (hval 0 89 v0 rfl rfl)
  have k0 := h0
  have lt0 : ∀ x ∈ p0, x.block < W.heap.size := by obtain ⟨m, hm⟩ := k0; exact DataW.trod_lt m _ _ _ hm
  obtain ⟨v0, v1, v2, A, B, l, rfl, hA1, hB1, hl1, _, _, hs0, hs1, hs2⟩ : ∃ (v0 v1 v2 : Value) (A B : List Nat) (l : List OpD), cs0 = #[v0, v1, v2] ∧ (∀ x ∈ A, x < 256) ∧ (∀ x ∈ B, x < 256) ∧ (∀ o ∈ l, o.ok) ∧ A.length ≤ maxLen ∧ B.length ≤ maxLen ∧
      SliceIs W 1 v0 A.length (bv A) ∧ SliceIs W 1 v1 B.length (bv B) ∧ SliceIs W 4 v2 l.length (opsv l) := by
    obtain ⟨fuel, hf⟩ := h0
    obtain ⟨fs, f0, f1, R⟩ := readsType
    exact reads_in R (hc0.trans (by kernel_rfl)) hf
  clear hA0 hval0
  refine (walk v0 v1 v2 A B l W hA1 hB1 hl1 hs0 hs1 hs2).mono fun e W' ⟨he, bel⟩ => ?_
  subst he
  exact ⟨_, rfl, _, _, _, [], _, [], hW', trodAll_mk1 (shut_bool Try.underlying4 _), (trodAll_cons_mk (Below.trod laidOut (by kernel_rfl) (of_decide_eq_true (by kernel_rfl)) k0 bel lt0) trodAll_mk0), rfl, bel.frame _, fun h => by cases h⟩

theorem over : Rows.bitsReadsRow.holds Try.pinned (OpenSpec.ofChange Rows.bitsReadsSpec) :=
  OpenClaim.holds_of_wide 6 Try.f6 rfl rfl rfl rfl rfl rfl rfl ⟨rfl, rfl, rfl, rfl, rfl⟩ rfl rfl rfl rfl rfl (by kernel_rfl) Try.func6 (by kernel_rfl)
    (of_decide_eq_true (by kernel_rfl)) (by unfold Func.isWrapper; first | (rw [if_pos (by decide +kernel)]; kernel_rfl) | (rw [if_neg (by decide +kernel)]; exact ⟨rfl, rfl⟩))
    (fun os started H enc _ => lifted os started H enc)


theorem BitsReads_holds : Rows.BitsReadsSaid := over
#print axioms BitsReads_holds
end Go.Proofs.Ytngnfdlkkedaaaa.bitsReads
