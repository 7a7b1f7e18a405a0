/- For all rows of times, all bytes and all numbers the law TimesExact returns true and leaves its argument as it was. No condition. -/
import Derived.Test.YtakaolcajbhkiaaGreatRows
import Derived.Test.YtakaolcajbhkiaaGreatLTExact
import Derived.Test.YtakaolcajbhkiaaGreatLTop
import Derived.Test.YtakaolcajbhkiaaGreatLRows6
import Derived.ShutString
import Derived.Below
namespace Go.Proofs.YtakaolcajbhkiaaGreat.timesExact
set_option linter.unusedSimpArgs false
open Go.ChangeShapes Go.WideShapes Go.ChangeAt Go.RowKit Go.SL Go.Fm
open Go.ChangeMaps (open_string shut_string)
set_option linter.unusedVariables false

theorem own : ownKnob Tryz.prog.godebug = none := by kernel_rfl
theorem laidOut : laidOutB Tryz.prog = true := by kernel_rfl

theorem walk (v0 v1 v2 : Value) (L : List (List Int)) (B : List (List Nat)) (N : List Int) (w : World) (hL : ∀ l ∈ L, I64 l ∧ l.length ≤ 20000000000000) (hB : ∀ b ∈ B, (∀ x ∈ b, x < 256) ∧ b.length ≤ 200000000000000) (hN : I64 N) (hNl : N.length ≤ maxLen)
    (hs0 : RowsIs w iv v0 L) (hs1 : RowsIs w bv v1 B) (hs2 : SliceIs w 1 v2 N.length (iv N)) :
    Calls Tryz.prog 3 #[.agg #[v0, v1, v2]] w fun e w' => e = .returned (.bool true) ∧ Below w.heap.size w w' := by
  refine (TimesExact_c v0 v1 v2 L B N w _ (Holds.start w) hs0.seen hL hs1.seen hB (sees_start hs2) hN hNl).mono ?_
  rintro e w' ⟨he, H, S⟩
  exact ⟨he, below_of_holds (l := []) H S⟩

/-! ### THE ROW's STEP: WRITTEN OUT: LEAVE IT -/
set_option maxRecDepth 100000 in
theorem lifted (os : Os) (started : os.Started) (H : Type) (enc : TypeId × Value → H) :
    ReturnsInHanded {} Tryz.checked os 3 .any (Rows.timesExactSpec.pre6 enc Tryz.prog Tryz.f3 Rows.timesExactRow.domain false) (Rows.timesExactSpec.post enc Tryz.prog Tryz.f3 false true false false) := by
  refine returnsInHanded_of_change_sized (C := Tryz.checked) own started (by kernel_rfl) Tryz.func3
    (ChangeSpec.witness6 (enc := enc) (C := Tryz.checked) false ⟨#[], #[.agg #[.slice none 0 0, .slice none 0 0, .slice none 0 0]], []⟩ 8 (by kernel_rfl) (by kernel_rfl) (by kernel_rfl) (by kernel_rfl)) ?_
  intro W base args ds gs before hval0 hW hcnd hsz _
  have hval : ∀ (j : Nat) t v, Tryz.f3.params[j]? = some t → args[j]? = some v → Value.okWide Tryz.prog W .any base t v := hval0
  have hW' := hW
  obtain ⟨p, q, hA0, hV, rfl, hfz, hnd⟩ := hW
  have hA : DataW.TrodAll enc Tryz.prog W 0 (fun _ => true) true Tryz.f3.params.toList args.toList ds p := hA0
  rw [Tryz.params3] at hA hval
  obtain ⟨v0, vs0, d0, ds0, p0, q0, hargs, rfl, rfl, h0, r0⟩ := trodAll_cons hA
  obtain ⟨rfl, rfl, rfl⟩ := trodAll_nil r0
  obtain rfl : args = #[v0] := by cases args; simp_all
  obtain ⟨rfl, rfl⟩ := trodVars_none hV
  obtain ⟨cs0, rfl, hc0⟩ := okWide_struct Tryz.underlying26 (hval 0 26 v0 rfl rfl)
  have k0 := h0
  have lt0 : ∀ x ∈ p0, x.block < W.heap.size := by obtain ⟨m, hm⟩ := k0; exact DataW.trod_lt m _ _ _ hm
  obtain ⟨v0, v1, v2, L, B, N, rfl, hLs, hL, hBs, hB, hN, hNs, hNl⟩ : ∃ (v0 v1 v2 : Value) (L : List (List Int)) (B : List (List Nat)) (N : List Int), cs0 = #[v0, v1, v2] ∧ RowsIs W iv v0 L ∧ (∀ l ∈ L, I64 l ∧ l.length ≤ 20000000000000) ∧
      RowsIs W bv v1 B ∧ (∀ b ∈ B, (∀ x ∈ b, x < 256) ∧ b.length ≤ 200000000000000) ∧ I64 N ∧ SliceIs W 1 v2 N.length (iv N) ∧ N.length ≤ maxLen := by
    obtain ⟨fuel, hf⟩ := h0
    refine rowsArg (hc0.trans (by kernel_rfl)) hf ?_
    intro k hk
    have h1 := List.all_eq_true.1 hsz k (DataW.weights_mem_each (j := 0) (t := 26) (d := d0) rfl rfl k hk)
    simpa using h1
  clear hA0 hval0
  refine (walk v0 v1 v2 L B N W hL hB hN hNl hLs hBs hNs).mono fun e W' ⟨he, bel⟩ => ?_
  subst he
  exact ⟨_, rfl, _, _, _, [], _, [], hW', trodAll_mk1 (shut_bool Tryz.underlying4 _), (trodAll_cons_mk (Below.trod laidOut (by kernel_rfl) (of_decide_eq_true (by kernel_rfl)) k0 bel lt0) trodAll_mk0), rfl, bel.frame _, fun h => by cases h⟩

theorem over : Rows.timesExactRow.holds Tryz.pinned (OpenSpec.ofChange Rows.timesExactSpec) :=
  OpenClaim.holds_of_wide 3 Tryz.f3 rfl rfl rfl rfl rfl rfl rfl ⟨rfl, rfl, rfl, rfl, rfl⟩ rfl rfl rfl rfl rfl (by kernel_rfl) Tryz.func3 (by kernel_rfl)
    (of_decide_eq_true (by kernel_rfl)) (by unfold Func.isWrapper; first | (rw [if_pos (by decide +kernel)]; kernel_rfl) | (rw [if_neg (by decide +kernel)]; exact ⟨rfl, rfl⟩))
    (fun os started H enc _ => lifted os started H enc)


theorem TimesExact_holds : Rows.TimesExactSaid := over
#print axioms TimesExact_holds
end Go.Proofs.YtakaolcajbhkiaaGreat.timesExact
