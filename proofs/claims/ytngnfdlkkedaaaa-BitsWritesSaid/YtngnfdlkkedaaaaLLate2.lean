/- Late: bytes made out of a string; the lists that wait. -/
import Derived.Test.YtngnfdlkkedaaaaLLate1
import Derived.Test.YtngnfdlkkedaaaaBook8
import Derived.Laws.IdiomStrings
namespace Go.SL
set_option linter.unusedVariables false
set_option linter.unusedSimpArgs false
open Go.RowKit Go.Fm
/-- Bytes in a row of their own, of whatever marks: to be read. -/
def roS (E : TypeId) (v : Value) (B : List Nat) : HProp := fun h => ∃ z : Nat × Nat × Array Value × (Nat × Nat),
  (v = .slice (some ⟨z.1, 0, none⟩) B.length z.2.1 ∧ B.length ≤ z.2.1 ∧ z.2.1 ≤ maxLen ∧ ∀ (j : Nat) (x : Value), (bv B)[j]? = some x → z.2.2.1[j]? = some x) ∧ h = hone z.1 (.cells z.2.2.1 E z.2.2.2)
theorem roS_is {E : TypeId} {v : Value} {B : List Nat} {w : World} {F : List HProp} (h : Holds w (roS E v B :: F)) : SliceIs w 1 v B.length (bv B) := by
  obtain ⟨⟨g, cap, cs, fr⟩, h⟩ := Holds.elim h
  obtain ⟨⟨hv, h1, h2, h3⟩, h⟩ := Holds.elimP h
  simp only at hv h1 h2 h3 h
  have h4 : Holds w (pts g (.cells cs E fr) :: F) := h
  refine ⟨by simp, .inr ⟨⟨g, 0, none⟩, cap, hv, h1, h2, fun j x hj => ?_⟩⟩
  rw [add_plain', Nat.zero_add, h4.cell j]
  exact h3 j x hj
theorem bstr_size (B : List Nat) : (bstr B).size = B.length := by
  show (bstr B).data.size = _
  rw [← Array.length_toList]
  unfold bstr
  rw [strOfNums_data]
  simp
theorem bstr_at (B : List Nat) (hB : ∀ x ∈ B, x < 256) (j : Nat) (x : Value) (hx : (bv B)[j]? = some x) (cap : Nat) : (bytesRow (bstr B) cap)[j]? = some x := by
  have hj : j < B.length := by have := (List.getElem?_eq_some_iff.1 hx).1; simpa using this
  have hs : j < (bstr B).data.size := by have := bstr_size B; show j < (bstr B).size; omega
  rw [bytesRow_at _ _ _ hs]
  rw [← hx]
  have e1 : (bstr B).data[j] = (bstr B).data.toList[j]'(by simpa using hs) := by simp
  have e2 : (bstr B).data.toList = (B.map fun x : Nat => (x : Int)).map (fun n => UInt8.ofNat n.toNat) := by unfold bstr; rw [strOfNums_data]
  rw [e1]
  simp only [e2]
  have hlt := hB B[j] (List.getElem_mem hj)
  simp [bv, hj, UInt8.toNat_ofNat, Nat.mod_eq_of_lt hlt]
/-- []byte(s). -/
theorem roS_conv {E : TypeId} {B : List Nat} {w : World} {F : List HProp} (h : Holds w F) (hB : ∀ x ∈ B, x < 256) (hl : B.length ≤ maxLen) (fr : Nat × Nat) :
    Holds (w.drew.alloc (.cells (bytesRow (bstr B) (grownCap w (bstr B).size 0 E)) E fr)) (roS E (.slice (some ⟨w.heap.size, 0, none⟩) (bstr B).size (grownCap w (bstr B).size 0 E)) B :: F) := by
  have h1 := h.drew.alloc (.cells (bytesRow (bstr B) (grownCap w (bstr B).size 0 E)) E fr)
  refine h1.mono fun x hx => ⟨(w.heap.size, grownCap w (bstr B).size 0 E, bytesRow (bstr B) (grownCap w (bstr B).size 0 E), fr), ⟨?_, ?_, ?_, ?_⟩, hx⟩
  · rw [bstr_size]
  · have := grownCap_ge w (bstr B).size 0 E; rw [bstr_size] at *; exact this
  · exact grownCap_le_maxLen w _ 0 E (by rw [bstr_size]; exact hl)
  · exact fun j x hj => bstr_at B hB j x hj _
end Go.SL
namespace Go.Proofs.Ytngnfdlkkedaaaa
set_option linter.unusedVariables false
set_option linter.unusedSimpArgs false
open Go.RowKit Go.SL Go.Fm
/-- Two slices of the same bytes that wait. -/
structure Lt where
  g : Value
  u : Value
  B : List Nat
def twoS (e : Lt) : HProp := sep (own 5 1 e.g e.B.length (bv e.B)) (roS 5 e.u e.B)
abbrev latP (b : Nat) (v u : Value) : HProp := pts b (.cells #[v, u] 82 (0, 0))
/-- Late. -/
def lateL (b : Nat) (es : List Lt) : HProp := fun h => ∃ z : Value × Value, sep (latP b z.1 z.2) (sep (own 25 1 z.1 es.length (es.map fun e => e.g)) (sep (own 25 1 z.2 es.length (es.map fun e => e.u)) (all (es.map twoS)))) h
theorem lateL_open {b : Nat} {es : List Lt} {w : World} {F : List HProp} (h : Holds w (lateL b es :: F)) :
    ∃ v u, Holds w (latP b v u :: own 25 1 v es.length (es.map fun e => e.g) :: own 25 1 u es.length (es.map fun e => e.u) :: all (es.map twoS) :: F) := by
  obtain ⟨⟨v, u⟩, h⟩ := Holds.elim h
  have h2 := Holds.ord (l := [_, _, _]) h.split.swap.split [1, 0, 2] rfl
  simp only [List.map, List.getD_cons_zero, List.getD_cons_succ, List.cons_append, List.nil_append] at h2
  have h3 := Holds.ord (l := [_, _, _, _]) h2.split [3, 2, 0, 1] rfl
  exact ⟨v, u, h3⟩
theorem lateL_shut {b : Nat} {es : List Lt} {w : World} {F : List HProp} {v u : Value}
    (h : Holds w (latP b v u :: own 25 1 v es.length (es.map fun e => e.g) :: own 25 1 u es.length (es.map fun e => e.u) :: all (es.map twoS) :: F)) : Holds w (lateL b es :: F) := by
  have h1 := Holds.ord (l := [_, _, _, _]) h [2, 3, 1, 0] rfl
  simp only [List.map, List.getD_cons_zero, List.getD_cons_succ, List.cons_append, List.nil_append] at h1
  have h2 := Holds.ord (l := [_, _, _]) h1.unsplit [1, 0, 2] rfl
  simp only [List.map, List.getD_cons_zero, List.getD_cons_succ, List.cons_append, List.nil_append] at h2
  have h3 := h2.unsplit.swap.unsplit
  exact h3.mono fun _ hx => ⟨(v, u), hx⟩
theorem lateL_nil {b : Nat} {w : World} {F : List HProp} (h : Holds w (latP b (.slice none 0 0) (.slice none 0 0) :: F)) : Holds w (lateL b [] :: F) := by
  have h1 : Holds w (all ([].map twoS) :: latP b (.slice none 0 0) (.slice none 0 0) :: F) := h.addEmp
  have h2 : Holds w (own 25 1 (.slice none 0 0) 0 [] :: own 25 1 (.slice none 0 0) 0 [] :: all ([].map twoS) :: latP b (.slice none 0 0) (.slice none 0 0) :: F) := h1.own_nil.own_nil
  exact lateL_shut (Holds.ord (l := [_, _, _, _]) h2 [3, 0, 1, 2] rfl)
/-- A list's two slices come out ahead. -/
theorem two_pull {es : List Lt} {e : Lt} {w : World} {F : List HProp} (h : Holds w (all (es.map twoS) :: F)) (he : e ∈ es) :
    ∃ l1 l2, es = l1 ++ e :: l2 ∧ Holds w (own 5 1 e.g e.B.length (bv e.B) :: roS 5 e.u e.B :: all ((l1 ++ l2).map twoS) :: F) := by
  obtain ⟨l1, l2, rfl⟩ := List.append_of_mem he
  refine ⟨l1, l2, rfl, ?_⟩
  have h2 : Holds w (all ((e :: (l1 ++ l2)).map twoS) :: F) := h.mono fun x hx => by
    refine all_perm ?_ hx
    exact (List.perm_middle (a := e) (l₁ := l1) (l₂ := l2)).map _
  have h3 : Holds w (twoS e :: all ((l1 ++ l2).map twoS) :: F) := h2.split
  exact h3.split
theorem two_is {es : List Lt} {e : Lt} {w : World} {F : List HProp} (h : Holds w (all (es.map twoS) :: F)) (he : e ∈ es) :
    SliceIs w 1 e.g e.B.length (bv e.B) ∧ SliceIs w 1 e.u e.B.length (bv e.B) := by
  obtain ⟨l1, l2, _, h2⟩ := two_pull h he
  exact ⟨h2.own_is, roS_is h2.tail⟩
theorem two_push {es : List Lt} {e : Lt} {w : World} {F : List HProp} (h : Holds w (own 5 1 e.g e.B.length (bv e.B) :: roS 5 e.u e.B :: all (es.map twoS) :: F)) : Holds w (all ((es ++ [e]).map twoS) :: F) := by
  have h1 : Holds w (twoS e :: all (es.map twoS) :: F) := h.unsplit
  have h2 : Holds w (all ((e :: es).map twoS) :: F) := h1.unsplit
  refine h2.mono fun x hx => all_perm ?_ hx
  exact (List.perm_append_comm (l₁ := [e]) (l₂ := es)).map _
end Go.Proofs.Ytngnfdlkkedaaaa
