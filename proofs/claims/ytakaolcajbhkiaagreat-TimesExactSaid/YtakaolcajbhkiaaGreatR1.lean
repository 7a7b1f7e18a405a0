/- The document's writer of bits: what each of its methods does. -/
import Derived.Test.YtakaolcajbhkiaaGreatBW3
import Derived.Test.YtakaolcajbhkiaaGreatBits4
namespace Go.Proofs.YtakaolcajbhkiaaGreat
open Go.RowKit Go.SL Go.Fm
set_option linter.unusedVariables false
set_option linter.unusedSimpArgs false

/-- Bits as numbers. -/
def nums (L : List Bool) : List Nat := L.map Bool.toNat
theorem length_nums (L : List Bool) : (nums L).length = L.length := by simp [nums]
theorem nums_append (L M : List Bool) : nums (L ++ M) = nums L ++ nums M := by simp [nums]

/-- The document's writer, by its state. -/
def fS (b : Nat) (s : Ws) : HProp := fun h => ∃ v, sep (pts b (.cells #[v, .int .i64 (s.bad : Nat)] 90 (0, 0))) (own 5 1 v s.L.length (bv (nums s.L))) h
theorem fS_open {b : Nat} {s : Ws} {w : World} {F : List HProp} (h : Holds w (fS b s :: F)) :
    ∃ v, Holds w (pts b (.cells #[v, .int .i64 (s.bad : Nat)] 90 (0, 0)) :: own 5 1 v s.L.length (bv (nums s.L)) :: F) := by
  obtain ⟨v, h⟩ := Holds.elim h
  exact ⟨v, h.split⟩
theorem fS_shut {b : Nat} {s : Ws} {w : World} {F : List HProp} {v : Value} {L : List Bool} {bad : Nat} (hL : s.L = L) (hb : s.bad = bad)
    (h : Holds w (pts b (.cells #[v, .int .i64 (bad : Nat)] 90 (0, 0)) :: own 5 1 v L.length (bv (nums L)) :: F)) : Holds w (fS b s :: F) := by
  subst hL hb
  exact h.unsplit.mono fun _ hx => ⟨v, hx⟩
theorem new_rwriter {w : World} {F : List HProp} (H : Holds w F) : Holds (w.alloc (.cells #[.slice none 0 0, .int .i64 0] 90)) (fS w.heap.size ⟨[], 0⟩ :: F) :=
  fS_shut (v := .slice none 0 0) (L := []) (bad := 0) rfl rfl (Holds.swap (Holds.own_nil (H.alloc _)))

set_option maxRecDepth 100000 in
theorem rwPut_c (b : Nat) (x : Bool) (s : Ws) (w : World) (F : List HProp) (H : Holds w (fS b s :: F)) (hL : s.L.length ≤ 1000000000000) :
    Calls Tryz.prog 84 #[.pointer (some ⟨b, 0, none⟩), .int .u8 (x.toNat : Nat)] w (Ret w (.tuple #[]) (fS b (s.put [x]) :: F)) := by
  obtain ⟨i0, hi, hz0, hz1, hz2⟩ := info_parts info_u8
  obtain ⟨v, H1⟩ := fS_open H
  have c0 := H1.cell 0
  have c1 := H1.cell 1
  have z0 := H1.free 0
  simp at c0 c1
  unfold Ws.put
  by_cases hb : s.bad = 0
  · rw [if_pos hb]
    rw [hb] at c1
    go_enter Tryz.func84, Tryz.ntmps84
    go_wp2_with (at_builtin; refine wpList_append_sl rfl _ _ _ rfl i0 (.int .u8 0) Tryz.underlying57 hi hz0 hz1 hz2 rfl (by decide) rfl (x := .slice (some ⟨w.heap.size, 0, none⟩) 1 1) rfl (H1.swap.alloc' _) (m := 1) (news := [.int .u8 (x.toNat : Nat)]) (slice_new w _ _ _ 1 1 rfl (by decide)) (by simp [Value.oneCell']) (by omega) (by unfold maxLen; omega) ?_; intro v1 w1 H2 S1; obtain ⟨a1, k1, rfl⟩ := own_shape H2; have d0 := H2.swap.cell 0; have e0 := H2.swap.free 0; simp at d0)
    go_end0
    refine ⟨rfl, ?_, ((Str.refl w).alloc _).trans S1 |>.setCell _ _⟩
    refine fS_shut (v := .slice a1 (s.L.length + 1) k1) rfl rfl ?_
    have H3 := H2.swap.store 0 (.slice a1 (s.L.length + 1) k1)
    rw [List.length_append, nums_append, bv_append]
    exact H3
  · rw [if_neg hb]
    have hb' : ((s.bad : Int) == 0) = false := by simp; omega
    go_enter Tryz.func84, Tryz.ntmps84
    go_wp2
    go_end0
    exact ⟨rfl, H, Str.refl w⟩

set_option maxRecDepth 100000 in
theorem rwRefuse_c (b : Nat) (e : Nat) (s : Ws) (w : World) (F : List HProp) (H : Holds w (fS b s :: F)) :
    Calls Tryz.prog 83 #[.pointer (some ⟨b, 0, none⟩), .int .i64 e] w (Ret w (.tuple #[]) (fS b (s.refuse e) :: F)) := by
  obtain ⟨v, H1⟩ := fS_open H
  have c1 := H1.cell 1
  have z1 := H1.free 1
  simp at c1
  unfold Ws.refuse
  by_cases hb : s.bad = 0
  · rw [if_pos hb]
    rw [hb] at c1
    go_enter Tryz.func83, Tryz.ntmps83
    go_wp2
    go_end0
    exact ⟨rfl, fS_shut rfl rfl (H1.store 1 _), (Str.refl w).setCell _ _⟩
  · rw [if_neg hb]
    have hb' : ((s.bad : Int) == 0) = false := by simp; omega
    go_enter Tryz.func83, Tryz.ntmps83
    go_wp2
    go_end0
    exact ⟨rfl, H, Str.refl w⟩

end Go.Proofs.YtakaolcajbhkiaaGreat
