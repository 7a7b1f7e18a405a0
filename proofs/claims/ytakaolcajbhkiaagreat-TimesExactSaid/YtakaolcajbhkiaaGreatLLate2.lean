/- Late: bytes made out of a string; the lists that wait. Late: Add. Late: same. Late: Settle. -/
import Derived.Test.YtakaolcajbhkiaaGreatLLate1
import Derived.Test.YtakaolcajbhkiaaGreatBook8
import Derived.Laws.IdiomStrings
import Derived.Deep.RegionWith
import Derived.BigQuiet
namespace Go.SL
set_option linter.unusedVariables false
set_option linter.unusedSimpArgs false
open Go.RowKit Go.Fm
/-- Bytes in a row of their own, of whatever marks: to be read. -/
def roS (E : TypeId) (v : Value) (B : List Nat) : HProp := fun h => ∃ z : Nat × Nat × Array Value × (Nat × Nat),
  (v = .slice (some ⟨z.1, 0, none⟩) B.length z.2.1 ∧ B.length ≤ z.2.1 ∧ z.2.1 ≤ maxLen ∧ ∀ (j : Nat) (x : Value), (bv B)[j]? = some x → z.2.2.1[j]? = some x) ∧ h = hone z.1 (.cells z.2.2.1 E z.2.2.2)
theorem roS_is {E : TypeId} {v : Value} {B : List Nat} {w : World} {F : List HProp} (h : Holds w (roS E v B :: F)) : SliceIs w 1 v B.length (bv B) := by
  obtain ⟨⟨g, cap, cs, fr⟩, h⟩ := Holds.elim h
  obtain ⟨⟨hv, h1, h2, h3⟩, h⟩ := Holds.elimP h
  simp only at hv h1 h2 h3 h
  have h4 : Holds w (pts g (.cells cs E fr) :: F) := h
  refine ⟨by simp, .inr ⟨⟨g, 0, none⟩, cap, hv, h1, h2, fun j x hj => ?_⟩⟩
  rw [add_plain', Nat.zero_add, h4.cell j]
  exact h3 j x hj
theorem bstr_size (B : List Nat) : (bstr B).size = B.length := by
  show (bstr B).data.size = _
  rw [← Array.length_toList]
  unfold bstr
  rw [strOfNums_data]
  simp
theorem bstr_at (B : List Nat) (hB : ∀ x ∈ B, x < 256) (j : Nat) (x : Value) (hx : (bv B)[j]? = some x) (cap : Nat) : (bytesRow (bstr B) cap)[j]? = some x := by
  have hj : j < B.length := by have := (List.getElem?_eq_some_iff.1 hx).1; simpa using this
  have hs : j < (bstr B).data.size := by have := bstr_size B; show j < (bstr B).size; omega
  rw [bytesRow_at _ _ _ hs]
  rw [← hx]
  have e1 : (bstr B).data[j] = (bstr B).data.toList[j]'(by simpa using hs) := by simp
  have e2 : (bstr B).data.toList = (B.map fun x : Nat => (x : Int)).map (fun n => UInt8.ofNat n.toNat) := by unfold bstr; rw [strOfNums_data]
  rw [e1]
  simp only [e2]
  have hlt := hB B[j] (List.getElem_mem hj)
  simp [bv, hj, UInt8.toNat_ofNat, Nat.mod_eq_of_lt hlt]
/-- []byte(s). -/
theorem roS_conv {E : TypeId} {B : List Nat} {w : World} {F : List HProp} (h : Holds w F) (hB : ∀ x ∈ B, x < 256) (hl : B.length ≤ maxLen) (fr : Nat × Nat) :
    Holds (w.drew.alloc (.cells (bytesRow (bstr B) (grownCap w (bstr B).size 0 E)) E fr)) (roS E (.slice (some ⟨w.heap.size, 0, none⟩) (bstr B).size (grownCap w (bstr B).size 0 E)) B :: F) := by
  have h1 := h.drew.alloc (.cells (bytesRow (bstr B) (grownCap w (bstr B).size 0 E)) E fr)
  refine h1.mono fun x hx => ⟨(w.heap.size, grownCap w (bstr B).size 0 E, bytesRow (bstr B) (grownCap w (bstr B).size 0 E), fr), ⟨?_, ?_, ?_, ?_⟩, hx⟩
  · rw [bstr_size]
  · have := grownCap_ge w (bstr B).size 0 E; rw [bstr_size] at *; exact this
  · exact grownCap_le_maxLen w _ 0 E (by rw [bstr_size]; exact hl)
  · exact fun j x hj => bstr_at B hB j x hj _
end Go.SL
namespace Go.Proofs.YtakaolcajbhkiaaGreat
set_option linter.unusedVariables false
set_option linter.unusedSimpArgs false
open Go.RowKit Go.SL Go.Fm
/-- Two slices of the same bytes that wait. -/
structure Lt where
  g : Value
  u : Value
  B : List Nat
def twoS (e : Lt) : HProp := sep (own 5 1 e.g e.B.length (bv e.B)) (roS 5 e.u e.B)
abbrev latP (b : Nat) (v u : Value) : HProp := pts b (.cells #[v, u] 53 (0, 0))
/-- Late. -/
def lateL (b : Nat) (es : List Lt) : HProp := fun h => ∃ z : Value × Value, sep (latP b z.1 z.2) (sep (own 57 1 z.1 es.length (es.map fun e => e.g)) (sep (own 57 1 z.2 es.length (es.map fun e => e.u)) (all (es.map twoS)))) h
theorem lateL_open {b : Nat} {es : List Lt} {w : World} {F : List HProp} (h : Holds w (lateL b es :: F)) :
    ∃ v u, Holds w (latP b v u :: own 57 1 v es.length (es.map fun e => e.g) :: own 57 1 u es.length (es.map fun e => e.u) :: all (es.map twoS) :: F) := by
  obtain ⟨⟨v, u⟩, h⟩ := Holds.elim h
  have h2 := Holds.ord (l := [_, _, _]) h.split.swap.split [1, 0, 2] rfl
  simp only [List.map, List.getD_cons_zero, List.getD_cons_succ, List.cons_append, List.nil_append] at h2
  have h3 := Holds.ord (l := [_, _, _, _]) h2.split [3, 2, 0, 1] rfl
  exact ⟨v, u, h3⟩
theorem lateL_shut {b : Nat} {es : List Lt} {w : World} {F : List HProp} {v u : Value}
    (h : Holds w (latP b v u :: own 57 1 v es.length (es.map fun e => e.g) :: own 57 1 u es.length (es.map fun e => e.u) :: all (es.map twoS) :: F)) : Holds w (lateL b es :: F) := by
  have h1 := Holds.ord (l := [_, _, _, _]) h [2, 3, 1, 0] rfl
  simp only [List.map, List.getD_cons_zero, List.getD_cons_succ, List.cons_append, List.nil_append] at h1
  have h2 := Holds.ord (l := [_, _, _]) h1.unsplit [1, 0, 2] rfl
  simp only [List.map, List.getD_cons_zero, List.getD_cons_succ, List.cons_append, List.nil_append] at h2
  have h3 := h2.unsplit.swap.unsplit
  exact h3.mono fun _ hx => ⟨(v, u), hx⟩
theorem lateL_nil {b : Nat} {w : World} {F : List HProp} (h : Holds w (latP b (.slice none 0 0) (.slice none 0 0) :: F)) : Holds w (lateL b [] :: F) := by
  have h1 : Holds w (all ([].map twoS) :: latP b (.slice none 0 0) (.slice none 0 0) :: F) := h.addEmp
  have h2 : Holds w (own 57 1 (.slice none 0 0) 0 [] :: own 57 1 (.slice none 0 0) 0 [] :: all ([].map twoS) :: latP b (.slice none 0 0) (.slice none 0 0) :: F) := h1.own_nil.own_nil
  exact lateL_shut (Holds.ord (l := [_, _, _, _]) h2 [3, 0, 1, 2] rfl)
/-- A list's two slices come out ahead. -/
theorem two_pull {es : List Lt} {e : Lt} {w : World} {F : List HProp} (h : Holds w (all (es.map twoS) :: F)) (he : e ∈ es) :
    ∃ l1 l2, es = l1 ++ e :: l2 ∧ Holds w (own 5 1 e.g e.B.length (bv e.B) :: roS 5 e.u e.B :: all ((l1 ++ l2).map twoS) :: F) := by
  obtain ⟨l1, l2, rfl⟩ := List.append_of_mem he
  refine ⟨l1, l2, rfl, ?_⟩
  have h2 : Holds w (all ((e :: (l1 ++ l2)).map twoS) :: F) := h.mono fun x hx => by
    refine all_perm ?_ hx
    exact (List.perm_middle (a := e) (l₁ := l1) (l₂ := l2)).map _
  have h3 : Holds w (twoS e :: all ((l1 ++ l2).map twoS) :: F) := h2.split
  exact h3.split
theorem two_is {es : List Lt} {e : Lt} {w : World} {F : List HProp} (h : Holds w (all (es.map twoS) :: F)) (he : e ∈ es) :
    SliceIs w 1 e.g e.B.length (bv e.B) ∧ SliceIs w 1 e.u e.B.length (bv e.B) := by
  obtain ⟨l1, l2, _, h2⟩ := two_pull h he
  exact ⟨h2.own_is, roS_is h2.tail⟩
theorem two_push {es : List Lt} {e : Lt} {w : World} {F : List HProp} (h : Holds w (own 5 1 e.g e.B.length (bv e.B) :: roS 5 e.u e.B :: all (es.map twoS) :: F)) : Holds w (all ((es ++ [e]).map twoS) :: F) := by
  have h1 : Holds w (twoS e :: all (es.map twoS) :: F) := h.unsplit
  have h2 : Holds w (all ((e :: es).map twoS) :: F) := h1.unsplit
  refine h2.mono fun x hx => all_perm ?_ hx
  exact (List.perm_append_comm (l₁ := [e]) (l₂ := es)).map _
end Go.Proofs.YtakaolcajbhkiaaGreat

namespace Go.Proofs.YtakaolcajbhkiaaGreat
set_option linter.unusedVariables false
set_option linter.unusedSimpArgs false
open Go.RowKit Go.SL Go.Fm

set_option maxRecDepth 100000 in
set_option maxHeartbeats 4000000 in
theorem lateAdd_c (b : Nat) (es : List Lt) (g u0 : Value) (B : List Nat) (w : World) (F : List HProp) (H : Holds w (lateL b es :: own 5 1 g B.length (bv B) :: F)) (hS : Sees F 1 u0 B.length (bv B)) (hB : ∀ x ∈ B, x < 256) (hes : es.length ≤ 100000) (hl : B.length ≤ 100000000000) :
    Calls Tryz.prog 18 #[.pointer (some ⟨b, 0, none⟩), g, u0] w (fun e w' => e = .returned (.tuple #[]) ∧ ∃ u, Holds w' (lateL b (es ++ [⟨g, u, B⟩]) :: F) ∧ Str w w') := by
  obtain ⟨iB, hBj, hBy0, hBy1, hBy2⟩ := info_parts info_bytes
  obtain ⟨v, u, H1⟩ := lateL_open H
  obtain ⟨aL, cL, rfl⟩ := own_shape H1.swap
  obtain ⟨aU, cU, rfl⟩ := own_shape H1.pull2
  obtain ⟨ag, cg, rfl⟩ := own_shape H1.pull4
  have c0 := H1.cell 0
  have c1 := H1.cell 1
  have z0 := H1.free 0
  simp at c0 c1
  have H2 := H1.swap
  clear H
  go_enter Tryz.func18, Tryz.ntmps18
  go_upto_region 1 with (at_builtin; refine wpList_append_sl rfl _ _ _ rfl iB (.slice none 0 0) Tryz.underlying23 hBj hBy0 hBy1 hBy2 rfl (by decide) rfl (x := .slice (some ⟨w.heap.size, 0, none⟩) 1 1) rfl (H2.alloc' _) (m := 1) (news := [.slice ag B.length cg]) (slice_new w _ _ _ 1 1 rfl (by decide)) (by simp [Value.oneCell']) (by omega) (by unfold maxLen; omega) ?_; intro v8 w8 H8 S8; obtain ⟨a8, k8, rfl⟩ := own_shape H8; have d0 := H8.swap.cell 0; have e0 := H8.swap.free 0; simp at d0)
  have H9 : Holds (w8.setCell ⟨b, 0, none⟩ (.slice a8 (es.length + 1) k8)) (latP b (.slice a8 (es.length + 1) k8) (.slice aU es.length cU) :: _) := H8.swap.store 0 _
  have S9 := ((Str.refl w).alloc _ |>.trans S8).setCell ⟨b, 0, none⟩ (.slice a8 (es.length + 1) k8)
  generalize w8.setCell ⟨b, 0, none⟩ (.slice a8 (es.length + 1) k8) = w9 at H9 S9 ⊢
  clear d0 e0 c0 c1 z0 H8 S8 H1 H2
  have c1 := H9.cell 1
  have z1 := H9.free 1
  simp at c1
  have H10 := Holds.ord (l := [_, _, _, _, _]) H9 [2, 0, 1, 3, 4] rfl
  simp only [List.map, List.getD_cons_zero, List.getD_cons_succ, List.cons_append, List.nil_append] at H10
  have hq1 := conv_str (P := Tryz.prog) Tryz.underlying57 Tryz.underlying5 Tryz.underlying9 ((hS _ H10.tail.tail.tail.tail.tail) : SliceIs w9.drew 1 _ _ _)
  have hu0 : ∃ a c, u0 = .slice a B.length c := by
    obtain ⟨_, h⟩ := hS w9 H10.tail.tail.tail.tail.tail
    rcases h with ⟨h, h'⟩ | ⟨ad, cap, h, _⟩
    · exact ⟨_, _, h.trans (by rw [h'])⟩
    · exact ⟨_, _, h⟩
  obtain ⟨au, cu, rfl⟩ := hu0
  have hq2 := run_bytes_of_string (P := Tryz.prog) w9.drew 9 57 5 (bstr B) Tryz.underlying9 Tryz.underlying57 Tryz.underlying5
  have HX := roS_conv (E := 5) (B := B) H10.drew hB (by unfold maxLen; omega) ((bytesRow (bstr B) (grownCap w9.drew (bstr B).size 0 5)).size, (bytesRow (bstr B) (grownCap w9.drew (bstr B).size 0 5)).size + 1)
  obtain ⟨w10, hw10⟩ : ∃ w10, w10 = w9.drew.drew.alloc (.cells (bytesRow (bstr B) (grownCap w9.drew (bstr B).size 0 5)) 5 ((bytesRow (bstr B) (grownCap w9.drew (bstr B).size 0 5)).size, (bytesRow (bstr B) (grownCap w9.drew (bstr B).size 0 5)).size + 1)) := ⟨_, rfl⟩
  obtain ⟨cX, hcX⟩ : ∃ c, c = grownCap w9.drew (bstr B).size 0 5 := ⟨_, rfl⟩
  have S10 : Str w w10 := by rw [hw10]; exact (S9.drew.drew.alloc _)
  rw [← hw10] at HX hq2
  rw [← hcX] at HX hq2
  rw [bstr_size] at HX hq2
  replace hw10 := Lib.hid hw10
  replace hcX := Lib.hid hcX
  obtain ⟨gX, hgX⟩ : ∃ gX, gX = w9.drew.heap.size := ⟨_, rfl⟩
  rw [← hgX] at HX hq2
  replace hgX := Lib.hid hgX
  have HY := HX.swap
  have c1' := HX.pull2.cell 1
  have z1' := HX.pull2.free 1
  simp at c1'
  have hlt10 := HX.pull2.lt
  have hlt9 := H9.lt
  have hne10 : b ≠ w10.heap.size := by omega
  have hne10' := Ne.symm hne10
  have hbig : es.length + 1 ≤ 5864062014805 := by omega
  have hmax : es.length + 1 ≤ maxLen := by unfold maxLen; omega
  go_region_law ((refine step_append_sl rfl _ _ _ rfl iB (.slice none 0 0) Tryz.underlying23 hBj hBy0 hBy1 hBy2 rfl (by decide) rfl rfl (HY.alloc' _) (m := 1) (slice_new w10 _ _ _ 1 1 rfl (by decide)) (by simp [Value.oneCell']) (by omega) hmax ?_; intro v8 w8 H8 S8; obtain ⟨a9, k9, rfl⟩ := own_shape H8; have d0 := H8.pull2.cell 1; have e0 := H8.pull2.free 1; simp at d0))
  all_goals
    go_end0
    refine ⟨rfl, .slice (some ⟨gX, 0, none⟩) B.length cX, ?_, ((S10.alloc _).trans S8).setCell _ _⟩
    have H12 := H8.pull2.store 1 (.slice a9 (es.length + 1) k9)
    have H13 := Holds.ord (l := [_, _, _, _, _, _]) H12 [5, 2, 4, 0, 3, 1] rfl
    simp only [List.map, List.getD_cons_zero, List.getD_cons_succ, List.cons_append, List.nil_append] at H13
    have H14 := two_push (e := ⟨.slice ag B.length cg, .slice (some ⟨gX, 0, none⟩) B.length cX, B⟩) H13
    have H15 := Holds.ord (l := [_, _, _, _]) H14 [1, 2, 3, 0] rfl
    simp only [List.map, List.getD_cons_zero, List.getD_cons_succ, List.cons_append, List.nil_append] at H15
    refine lateL_shut (v := .slice a8 (es.length + 1) k8) (u := .slice a9 (es.length + 1) k9) ?_
    rw [List.map_append, List.map_append, List.length_append]
    exact H15
end Go.Proofs.YtakaolcajbhkiaaGreat

namespace Go.Proofs.YtakaolcajbhkiaaGreat
set_option linter.unusedVariables false
set_option linter.unusedSimpArgs false
open Go.RowKit Go.SL Go.Fm

set_option maxRecDepth 100000 in
set_option maxHeartbeats 4000000 in
theorem lateSame_c (b : Nat) (es : List Lt) (w : World) (F : List HProp) (H : Holds w (lateL b es :: F)) (hes : es.length ≤ 100000) :
    Calls Tryz.prog 20 #[.pointer (some ⟨b, 0, none⟩)] w (Ret w (.bool true) (lateL b es :: F)) := by
  obtain ⟨v, u, H1⟩ := lateL_open H
  obtain ⟨aL, cL, rfl⟩ := own_shape H1.swap
  obtain ⟨aU, cU, rfl⟩ := own_shape H1.pull2
  clear H
  go_enter Tryz.func20, Tryz.ntmps20
  go_wp2
  go_loopw [3] (fun s3 wl => ∃ (k : Nat), k ≤ es.length ∧ s3 = .int .i64 k ∧ Holds wl (latP b (.slice aL es.length cL) (.slice aU es.length cU) :: own 57 1 (.slice aL es.length cL) es.length (es.map fun e => e.g) :: own 57 1 (.slice aU es.length cU) es.length (es.map fun e => e.u) :: all (es.map twoS) :: F) ∧ Str w wl) (fun s3 _ => (200000 - intOf s3).toNat)
  case atStart => exact ⟨0, by omega, rfl, H1, Str.refl w⟩
  case round =>
    clear H1
    obtain ⟨k, hk1, rfl, Hr, Sr⟩ := hrel
    have c0 := Hr.cell 0
    have c1 := Hr.cell 1
    simp at c0 c1
    by_cases hkn : k < es.length
    · obtain ⟨e, he⟩ : ∃ e, e = es[k] := ⟨_, rfl⟩
      have hmem : e ∈ es := by rw [he]; exact List.getElem_mem hkn
      have hkl : (k : Int) < (es.length : Int) := by omega
      obtain ⟨gL, oL, capL, hvL, hcL, hcmL, hcellL⟩ := Hr.swap.own_is.at (by omega)
      obtain ⟨gO, oO, capO, hvO, hcO, hcmO, hcellO⟩ := Hr.pull2.own_is.at (by omega)
      simp only [Value.slice.injEq] at hvL hvO
      obtain ⟨rfl, _, rfl⟩ := hvL
      obtain ⟨rfl, _, rfl⟩ := hvO
      have dL := hcellL k e.g (by simp [he, hkn])
      have dO := hcellO k e.u (by simp [he, hkn])
      replace he := Lib.hid he
      unfold maxLen at hcmL hcmO
      obtain ⟨i1, i2⟩ := two_is Hr.pull3 hmem
      have q1 := fun n => conv_str (P := Tryz.prog) Tryz.underlying57 Tryz.underlying5 Tryz.underlying9 ((two_is (Hr.drewN n).pull3 hmem).1)
      have q2 := fun n => conv_str (P := Tryz.prog) Tryz.underlying57 Tryz.underlying5 Tryz.underlying9 ((two_is (Hr.drewN n).pull3 hmem).2)
      clear hcellL hcellO i1 i2
      obtain ⟨eg, eu, eB⟩ := e
      simp only at dL dO q1 q2
      go_upto_region 4 with fail
      go_quiet (fail)
      rename_i nq
      have Hi2 : Holds (wr.drewN nq) _ := Hr.drewN nq
      have Si2 := Sr.drewN nq
      generalize wr.drewN nq = w2 at Hi2 Si2 ⊢
      go_wp2_with fail
      go_roundw
      case rel => exact ⟨k + 1, by omega, by congr 1, Hi2, Si2⟩
      case measure => (simp [intOf] <;> omega)
    · have hkl : ¬ (k : Int) < (es.length : Int) := by omega
      go_wp2_with fail
      go_ret
      exact ⟨rfl, lateL_shut Hr, Sr⟩
end Go.Proofs.YtakaolcajbhkiaaGreat

namespace Go.Proofs.YtakaolcajbhkiaaGreat
set_option linter.unusedVariables false
set_option linter.unusedSimpArgs false
open Go.RowKit Go.SL Go.Fm

set_option maxRecDepth 100000 in
set_option maxHeartbeats 4000000 in
theorem lateSettle_c (b c T N : Nat) (es : List Lt) (w : World) (F : List HProp) (H : Holds w (lateL b es :: bookS c T :: F)) (hes : es.length ≤ 100000) (hT : T ≤ 800000000000) (hB : ∀ e ∈ es, e.B.length ≤ 100000000000) (hN : N ≤ 100000) :
    Calls Tryz.prog 5 #[.pointer (some ⟨b, 0, none⟩), .pointer (some ⟨c, 0, none⟩), .int .i64 N] w (fun e w' => e = .returned (.bool true) ∧ ∃ (es' : List Lt) (T' : Nat), ((es' = es ∨ es' = []) ∧ T' + es'.length = T + es.length) ∧ Holds w' (lateL b es' :: bookS c T' :: F) ∧ Str w w') := by
  obtain ⟨v, u, H1⟩ := lateL_open H
  obtain ⟨aL, cL, rfl⟩ := own_shape H1.swap
  have c0 := H1.cell 0
  simp at c0
  by_cases hsm : es.length < N
  · have hsm' : (es.length : Int) < (N : Int) := by omega
    replace hsm := Lib.hid hsm
    go_enter Tryz.func5, Tryz.ntmps5
    go_wp2
    go_ret
    exact ⟨rfl, es, T, ⟨.inl rfl, rfl⟩, H, Str.refl w⟩
  · have hsm' : ¬ (es.length : Int) < (N : Int) := by omega
    replace hsm := Lib.hid hsm
    go_enter Tryz.func5, Tryz.ntmps5
    go_wp2_with (go_at_call 20; refine (lateSame_c b es _ _ H hes).mono ?_; rintro e w1 ⟨rfl, HS1, SA⟩)
    clear c0 H1 H
    obtain ⟨v, u, H1⟩ := lateL_open HS1
    obtain ⟨aL, cL, rfl⟩ := own_shape H1.swap
    clear HS1
    go_loopw [7] (fun s7 wl => ∃ (k : Nat), k ≤ es.length ∧ s7 = .int .i64 k ∧ Holds wl (latP b (.slice aL es.length cL) u :: own 57 1 (.slice aL es.length cL) es.length (es.map fun e => e.g) :: own 57 1 u es.length (es.map fun e => e.u) :: all ((es.drop k).map twoS) :: bookS c (T + k) :: F) ∧ Str w wl) (fun s7 _ => (200000 - intOf s7).toNat)
    case atStart => exact ⟨0, by omega, rfl, H1, SA⟩
    case round =>
      clear H1 SA
      obtain ⟨k, hk1, rfl, Hr, Sr⟩ := hrel
      have c0 := Hr.cell 0
      simp at c0
      by_cases hkn : k < es.length
      · obtain ⟨e, he⟩ : ∃ e, e = es[k] := ⟨_, rfl⟩
        have hmem : e ∈ es := by rw [he]; exact List.getElem_mem hkn
        have hbl := hB e hmem
        have hkl : (k : Int) < (es.length : Int) := by omega
        obtain ⟨gL, oL, capL, hvL, hcL, hcmL, hcellL⟩ := Hr.swap.own_is.at (by omega)
        simp only [Value.slice.injEq] at hvL
        obtain ⟨rfl, _, rfl⟩ := hvL
        have dL := hcellL k e.g (by simp [he, hkn])
        unfold maxLen at hcmL
        rw [List.drop_eq_getElem_cons hkn, ← he] at Hr
        replace he := Lib.hid he
        clear hcellL
        have H2 := Holds.ord (l := [_, _, _, _, _]) Hr [3, 4, 0, 1, 2] rfl
        simp only [List.map, List.getD_cons_zero, List.getD_cons_succ, List.cons_append, List.nil_append] at H2
        have H3 : Holds wr (twoS e :: all ((es.drop (k + 1)).map twoS) :: bookS c (T + k) :: latP b (.slice (some ⟨gL, oL, none⟩) es.length cL) u :: own 57 1 (.slice (some ⟨gL, oL, none⟩) es.length cL) es.length (es.map fun e => e.g) :: own 57 1 u es.length (es.map fun e => e.u) :: F) := H2.split
        have H4 := H3.split
        have H5 := Holds.ord (l := [_, _, _, _, _, _, _]) H4 [3, 0, 1, 2, 4, 5, 6] rfl
        simp only [List.map, List.getD_cons_zero, List.getD_cons_succ, List.cons_append, List.nil_append] at H5
        clear H2 H3 H4 Hr
        go_wp2_with (go_at_call 21; refine (bkBytes_c c (T + k) _ _ _ _ _ H5 (by omega) (by omega)).mono ?_; rintro e' w2 ⟨rfl, H6, S6⟩)
        go_roundw
        case rel =>
          have H7 := Holds.ord (l := [_, _, _, _, _, _]) H6 [1, 3, 4, 5, 2, 0] rfl
          simp only [List.map, List.getD_cons_zero, List.getD_cons_succ, List.cons_append, List.nil_append] at H7
          exact ⟨k + 1, by omega, by congr 1, H7.tail, Sr.trans S6⟩
        case measure => (simp [intOf] <;> omega)
      · obtain rfl : k = es.length := by omega
        have hkl : ¬ (es.length : Int) < (es.length : Int) := by omega
        have c1 := Hr.cell 1
        simp at c1
        have z0 := Hr.free 0
        have z1 := Hr.free 1
        have z1' := (Hr.store 0 (.slice none 0 0)).free 1
        have Hs := (Hr.store 0 (.slice none 0 0)).store 1 (.slice none 0 0)
        have Hs2 := Holds.ord (l := [_, _, _, _, _]) Hs [1, 2, 3, 0, 4] rfl
        simp only [List.map, List.getD_cons_zero, List.getD_cons_succ, List.cons_append, List.nil_append] at Hs2
        have Hs3 := (lateL_nil Hs2.tail.tail.tail).swap
        go_wp2_with (go_at_call 11; refine (bkLook_c c (T + es.length) _ _ Hs3 (by omega)).mono ?_; rintro e' w2 ⟨rfl, H6, S6⟩)
        go_ret
        exact ⟨rfl, [], T + es.length, ⟨.inr rfl, rfl⟩, H6.swap, ((Sr.setCell _ _).setCell _ _).trans S6⟩
end Go.Proofs.YtakaolcajbhkiaaGreat
