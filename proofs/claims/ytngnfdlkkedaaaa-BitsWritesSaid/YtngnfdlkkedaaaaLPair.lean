/- Two writers in one block: each half's contracts. A new Book. -/
import Derived.Test.YtngnfdlkkedaaaaLDonep0
import Derived.Test.YtngnfdlkkedaaaaLDonep1
import Derived.Test.YtngnfdlkkedaaaaOps
import Derived.Test.YtngnfdlkkedaaaaLLayp0
import Derived.Test.YtngnfdlkkedaaaaLLayp1
namespace Go.Proofs.Ytngnfdlkkedaaaa
set_option linter.unusedVariables false
set_option linter.unusedSimpArgs false
open Go.RowKit Go.SL Go.Fm
abbrev pwC (v : Value) (s : Ws) (u : Value) (t : Ws) : Array Value := #[v, .int .i64 (s.L.length : Nat), .int .i64 (s.bad : Nat), u, .int .i64 (t.L.length : Nat), .int .i64 (t.bad : Nat)]
abbrev pfC (v : Value) (s : Ws) (u : Value) (t : Ws) : Array Value := #[v, .int .i64 (s.bad : Nat), u, .int .i64 (t.bad : Nat)]
/-- Two writers. -/
def pairW (b : Nat) (s t : Ws) : HProp := fun h => ∃ z : Value × Value, sep (pts b (.cells (pwC z.1 s z.2 t) 49 (0, 0))) (sep (own 5 1 z.1 (pack s.L).length (bv (pack s.L))) (own 5 1 z.2 (pack t.L).length (bv (pack t.L)))) h
/-- Two of the document's. -/
def pairF (b : Nat) (s t : Ws) : HProp := fun h => ∃ z : Value × Value, sep (pts b (.cells (pfC z.1 s z.2 t) 52 (0, 0))) (sep (own 5 1 z.1 s.L.length (bv (nums s.L))) (own 5 1 z.2 t.L.length (bv (nums t.L)))) h
def pairFX (b : Nat) (s t : Ws) (v u : Value) : HProp := sep (pts b (.cells (pfC v s u t) 52 (0, 0))) (sep (own 5 1 v s.L.length (bv (nums s.L))) (own 5 1 u t.L.length (bv (nums t.L))))
variable {w : World} {F : List HProp} {b c : Nat} {s t : Ws}
theorem pairFX_name (h : Holds w (pairF b s t :: F)) : ∃ v u, Holds w (pairFX b s t v u :: F) := by
  obtain ⟨⟨v, u⟩, h⟩ := Holds.elim h
  exact ⟨v, u, h⟩
theorem pairFX_hide {v u : Value} (h : Holds w (pairFX b s t v u :: F)) : Holds w (pairF b s t :: F) := h.mono fun _ hx => ⟨(v, u), hx⟩
theorem pairFX_open {v u : Value} (h : Holds w (pairFX b s t v u :: F)) : Holds w (pts b (.cells (pfC v s u t) 52 (0, 0)) :: own 5 1 v s.L.length (bv (nums s.L)) :: own 5 1 u t.L.length (bv (nums t.L)) :: F) := h.split.swap.split.pull2
theorem pairFX_shut {v u : Value} (h : Holds w (pts b (.cells (pfC v s u t) 52 (0, 0)) :: own 5 1 v s.L.length (bv (nums s.L)) :: own 5 1 u t.L.length (bv (nums t.L)) :: F)) : Holds w (pairFX b s t v u :: F) := h.pull2.pull2.unsplit.swap.unsplit
theorem pairW_open (h : Holds w (pairW b s t :: F)) : ∃ v u, Holds w (pts b (.cells (pwC v s u t) 49 (0, 0)) :: own 5 1 v (pack s.L).length (bv (pack s.L)) :: own 5 1 u (pack t.L).length (bv (pack t.L)) :: F) := by
  obtain ⟨⟨v, u⟩, h⟩ := Holds.elim h
  have h1 := h.split.swap.split.pull2
  exact ⟨v, u, h1⟩
theorem pairW_shut {v u : Value} (h : Holds w (pts b (.cells (pwC v s u t) 49 (0, 0)) :: own 5 1 v (pack s.L).length (bv (pack s.L)) :: own 5 1 u (pack t.L).length (bv (pack t.L)) :: F)) : Holds w (pairW b s t :: F) := by
  have h2 := h.pull2.pull2.unsplit.swap.unsplit
  exact h2.mono fun _ hx => ⟨(v, u), hx⟩
theorem pairF_open (h : Holds w (pairF b s t :: F)) : ∃ v u, Holds w (pts b (.cells (pfC v s u t) 52 (0, 0)) :: own 5 1 v s.L.length (bv (nums s.L)) :: own 5 1 u t.L.length (bv (nums t.L)) :: F) := by
  obtain ⟨⟨v, u⟩, h⟩ := Holds.elim h
  exact ⟨v, u, h.split.swap.split.pull2⟩
theorem pairF_shut {v u : Value} (h : Holds w (pts b (.cells (pfC v s u t) 52 (0, 0)) :: own 5 1 v s.L.length (bv (nums s.L)) :: own 5 1 u t.L.length (bv (nums t.L)) :: F)) : Holds w (pairF b s t :: F) := by
  have h2 := h.pull2.pull2.unsplit.swap.unsplit
  exact h2.mono fun _ hx => ⟨(v, u), hx⟩

theorem pairW_0 (h : Holds w (pairW b s t :: F)) : ∃ u, Holds w (P0.wS u (.int .i64 (t.L.length : Nat)) (.int .i64 (t.bad : Nat)) b s :: own 5 1 u (pack t.L).length (bv (pack t.L)) :: F) := by
  obtain ⟨v, u, h1⟩ := pairW_open h
  exact ⟨u, P0.wr_shut h1⟩
theorem pairW_0' {u : Value} (h : Holds w (P0.wS u (.int .i64 (t.L.length : Nat)) (.int .i64 (t.bad : Nat)) b s :: own 5 1 u (pack t.L).length (bv (pack t.L)) :: F)) : Holds w (pairW b s t :: F) := by
  obtain ⟨v, h1⟩ := P0.wr_open h
  exact pairW_shut h1
theorem pairF_0 (h : Holds w (pairF b s t :: F)) : ∃ u, Holds w (P0.fS u (.int .i64 (t.bad : Nat)) b s :: own 5 1 u t.L.length (bv (nums t.L)) :: F) := by
  obtain ⟨v, u, h1⟩ := pairF_open h
  exact ⟨u, P0.fS_shut rfl rfl h1⟩
theorem pairF_0' {u : Value} (h : Holds w (P0.fS u (.int .i64 (t.bad : Nat)) b s :: own 5 1 u t.L.length (bv (nums t.L)) :: F)) : Holds w (pairF b s t :: F) := by
  obtain ⟨v, h1⟩ := P0.fS_open h
  exact pairF_shut h1

theorem pair_0 (h : Holds w (pairW b s t :: pairF c s t :: F)) : ∃ u v, Holds w (P0.wS u (.int .i64 (t.L.length : Nat)) (.int .i64 (t.bad : Nat)) b s :: P0.fS v (.int .i64 (t.bad : Nat)) c s :: own 5 1 u (pack t.L).length (bv (pack t.L)) :: own 5 1 v t.L.length (bv (nums t.L)) :: F) := by
  obtain ⟨u, h1⟩ := pairW_0 h
  obtain ⟨v, h2⟩ := pairF_0 h1.pull2
  exact ⟨u, v, Holds.ord (l := [_, _, _, _]) h2 [2, 0, 3, 1] rfl⟩
theorem pair_0' {u v : Value} (h : Holds w (P0.wS u (.int .i64 (t.L.length : Nat)) (.int .i64 (t.bad : Nat)) b s :: P0.fS v (.int .i64 (t.bad : Nat)) c s :: own 5 1 u (pack t.L).length (bv (pack t.L)) :: own 5 1 v t.L.length (bv (nums t.L)) :: F)) : Holds w (pairW b s t :: pairF c s t :: F) := by
  have h1 := Holds.ord (l := [_, _, _, _]) h [1, 3, 0, 2] rfl
  simp only [List.map, List.getD_cons_zero, List.getD_cons_succ, List.cons_append, List.nil_append] at h1
  have h2 := Holds.ord (l := [_, _, _]) (pairF_0' h1) [1, 2, 0] rfl
  simp only [List.map, List.getD_cons_zero, List.getD_cons_succ, List.cons_append, List.nil_append] at h2
  exact pairW_0' h2
theorem pLay0 (b c : Nat) (o : OpD) (ho : o.ok) (s t : Ws) (w : World) (F : List HProp) (H : Holds w (pairW b s t :: pairF c s t :: F)) (hs : s.L.length ≤ 1000000000) :
    Calls Try.prog 22 #[.pointer (some ⟨b, 0, none⟩), .pointer (some ⟨c, 0, none⟩), opa o] w (Ret w (.tuple #[]) (pairW b (s.lay o) t :: pairF c (s.lay o) t :: F)) := by
  obtain ⟨u, v, H1⟩ := pair_0 H
  refine (P0.lay1_c b c o ho s s w _ H1 hs hs).mono ?_
  rintro e w' ⟨he, H2, S⟩
  exact ⟨he, pair_0' H2, S⟩
theorem pLen0 (b : Nat) (s t : Ws) (w : World) (F : List HProp) (H : Holds w (pairW b s t :: F)) :
    Calls Try.prog 11 #[.pointer (some ⟨b, 0, none⟩)] w (fun e w' => e = .returned (.int .i64 (s.L.length : Nat)) ∧ w' = w) := by
  obtain ⟨u, H1⟩ := pairW_0 H
  exact P0.wLen_c b s w _ H1
theorem pairFX_0 {v u : Value} (h : Holds w (pairFX b s t v u :: F)) : Holds w (P0.fX v u (.int .i64 (t.bad : Nat)) b s :: own 5 1 u t.L.length (bv (nums t.L)) :: F) := by
  have h1 := pairFX_open h
  exact P0.fX_shut h1
theorem pairFX_0' {v u : Value} (h : Holds w (P0.fX v u (.int .i64 (t.bad : Nat)) b s :: own 5 1 u t.L.length (bv (nums t.L)) :: F)) : Holds w (pairFX b s t v u :: F) := by
  have h1 := P0.fX_open h
  exact pairFX_shut h1
theorem pDone0 (b c d : Nat) (s t : Ws) (v u : Value) (es : List Lt) (w : World) (F : List HProp) (H : Holds w (pairW b s t :: pairFX c s t v u :: lateL d es :: F)) (hL : s.L.length ≤ 1000000000) (hes : es.length ≤ 90000) :
    Calls Try.prog 23 #[.pointer (some ⟨b, 0, none⟩), .pointer (some ⟨c, 0, none⟩), .pointer (some ⟨d, 0, none⟩)] w (fun e w' => e = .returned (.bool true) ∧ ∃ es' : List Lt, (es'.length = es.length + 2 ∧ ∀ e ∈ es', e ∈ es ∨ e.B.length ≤ s.L.length) ∧ Holds w' (pairW b s t :: pairFX c s t v u :: lateL d es' :: F) ∧ Str w w') := by
  obtain ⟨x, h1⟩ := pairW_0 H
  have h2 := pairFX_0 h1.pull2
  have H2 := Holds.ord (l := [_, _, _, _, _]) h2 [2, 0, 4, 1, 3] rfl
  simp only [List.map, List.getD_cons_zero, List.getD_cons_succ, List.cons_append, List.nil_append] at H2
  refine (P0.done_c b c d s es w _ H2 hL hes).mono ?_
  rintro e w' ⟨he, es', ⟨h1, h2⟩, H3, S⟩
  refine ⟨he, es', ⟨h1, fun e he' => (h2 e he').imp id fun h => ?_⟩, ?_, S⟩
  · rw [h]; exact P0.outB_len s
  · have H4 := Holds.ord (l := [_, _, _, _, _]) H3 [0, 4, 1, 3, 2] rfl
    simp only [List.map, List.getD_cons_zero, List.getD_cons_succ, List.cons_append, List.nil_append] at H4
    have H5 := Holds.ord (l := [_, _, _, _]) (pairW_0' H4) [1, 2, 0, 3] rfl
    simp only [List.map, List.getD_cons_zero, List.getD_cons_succ, List.cons_append, List.nil_append] at H5
    exact (pairFX_0' H5).swap
theorem pCell0 {v u : Value} (h : Holds w (pairFX c s t v u :: F)) : w.cell? ⟨c, 0, none⟩ = some v := by
  have h2 := (pairFX_open h).cell 0
  simp at h2
  exact h2
theorem pShape0 {v u : Value} (h : Holds w (pairFX c s t v u :: F)) : ∃ a k, v = .slice a s.L.length k := own_shape (pairFX_open h).swap

theorem pairW_1 (h : Holds w (pairW b s t :: F)) : ∃ u, Holds w (P1.wS u (.int .i64 (s.L.length : Nat)) (.int .i64 (s.bad : Nat)) b t :: own 5 1 u (pack s.L).length (bv (pack s.L)) :: F) := by
  obtain ⟨v, u, h1⟩ := pairW_open h
  exact ⟨v, P1.wr_shut (Holds.ord (l := [_, _, _]) h1 [0, 2, 1] rfl)⟩
theorem pairW_1' {u : Value} (h : Holds w (P1.wS u (.int .i64 (s.L.length : Nat)) (.int .i64 (s.bad : Nat)) b t :: own 5 1 u (pack s.L).length (bv (pack s.L)) :: F)) : Holds w (pairW b s t :: F) := by
  obtain ⟨v, h1⟩ := P1.wr_open h
  exact pairW_shut (Holds.ord (l := [_, _, _]) h1 [0, 2, 1] rfl)
theorem pairF_1 (h : Holds w (pairF b s t :: F)) : ∃ u, Holds w (P1.fS u (.int .i64 (s.bad : Nat)) b t :: own 5 1 u s.L.length (bv (nums s.L)) :: F) := by
  obtain ⟨v, u, h1⟩ := pairF_open h
  exact ⟨v, P1.fS_shut rfl rfl (Holds.ord (l := [_, _, _]) h1 [0, 2, 1] rfl)⟩
theorem pairF_1' {u : Value} (h : Holds w (P1.fS u (.int .i64 (s.bad : Nat)) b t :: own 5 1 u s.L.length (bv (nums s.L)) :: F)) : Holds w (pairF b s t :: F) := by
  obtain ⟨v, h1⟩ := P1.fS_open h
  exact pairF_shut (Holds.ord (l := [_, _, _]) h1 [0, 2, 1] rfl)

theorem pair_1 (h : Holds w (pairW b s t :: pairF c s t :: F)) : ∃ u v, Holds w (P1.wS u (.int .i64 (s.L.length : Nat)) (.int .i64 (s.bad : Nat)) b t :: P1.fS v (.int .i64 (s.bad : Nat)) c t :: own 5 1 u (pack s.L).length (bv (pack s.L)) :: own 5 1 v s.L.length (bv (nums s.L)) :: F) := by
  obtain ⟨u, h1⟩ := pairW_1 h
  obtain ⟨v, h2⟩ := pairF_1 h1.pull2
  exact ⟨u, v, Holds.ord (l := [_, _, _, _]) h2 [2, 0, 3, 1] rfl⟩
theorem pair_1' {u v : Value} (h : Holds w (P1.wS u (.int .i64 (s.L.length : Nat)) (.int .i64 (s.bad : Nat)) b t :: P1.fS v (.int .i64 (s.bad : Nat)) c t :: own 5 1 u (pack s.L).length (bv (pack s.L)) :: own 5 1 v s.L.length (bv (nums s.L)) :: F)) : Holds w (pairW b s t :: pairF c s t :: F) := by
  have h1 := Holds.ord (l := [_, _, _, _]) h [1, 3, 0, 2] rfl
  simp only [List.map, List.getD_cons_zero, List.getD_cons_succ, List.cons_append, List.nil_append] at h1
  have h2 := Holds.ord (l := [_, _, _]) (pairF_1' h1) [1, 2, 0] rfl
  simp only [List.map, List.getD_cons_zero, List.getD_cons_succ, List.cons_append, List.nil_append] at h2
  exact pairW_1' h2
theorem pLay1 (b c : Nat) (o : OpD) (ho : o.ok) (s t : Ws) (w : World) (F : List HProp) (H : Holds w (pairW b s t :: pairF c s t :: F)) (hs : t.L.length ≤ 1000000000) :
    Calls Try.prog 22 #[.pointer (some ⟨b, 3, none⟩), .pointer (some ⟨c, 2, none⟩), opa o] w (Ret w (.tuple #[]) (pairW b s (t.lay o) :: pairF c s (t.lay o) :: F)) := by
  obtain ⟨u, v, H1⟩ := pair_1 H
  refine (P1.lay1_c b c o ho t t w _ H1 hs hs).mono ?_
  rintro e w' ⟨he, H2, S⟩
  exact ⟨he, pair_1' H2, S⟩
theorem pLen1 (b : Nat) (s t : Ws) (w : World) (F : List HProp) (H : Holds w (pairW b s t :: F)) :
    Calls Try.prog 11 #[.pointer (some ⟨b, 3, none⟩)] w (fun e w' => e = .returned (.int .i64 (t.L.length : Nat)) ∧ w' = w) := by
  obtain ⟨u, H1⟩ := pairW_1 H
  exact P1.wLen_c b t w _ H1
theorem pairFX_1 {v u : Value} (h : Holds w (pairFX b s t v u :: F)) : Holds w (P1.fX u v (.int .i64 (s.bad : Nat)) b t :: own 5 1 v s.L.length (bv (nums s.L)) :: F) := by
  have h1 := pairFX_open h
  exact P1.fX_shut (Holds.ord (l := [_, _, _]) h1 [0, 2, 1] rfl)
theorem pairFX_1' {v u : Value} (h : Holds w (P1.fX u v (.int .i64 (s.bad : Nat)) b t :: own 5 1 v s.L.length (bv (nums s.L)) :: F)) : Holds w (pairFX b s t v u :: F) := by
  have h1 := P1.fX_open h
  exact pairFX_shut (Holds.ord (l := [_, _, _]) h1 [0, 2, 1] rfl)
theorem pDone1 (b c d : Nat) (s t : Ws) (v u : Value) (es : List Lt) (w : World) (F : List HProp) (H : Holds w (pairW b s t :: pairFX c s t v u :: lateL d es :: F)) (hL : t.L.length ≤ 1000000000) (hes : es.length ≤ 90000) :
    Calls Try.prog 23 #[.pointer (some ⟨b, 3, none⟩), .pointer (some ⟨c, 2, none⟩), .pointer (some ⟨d, 0, none⟩)] w (fun e w' => e = .returned (.bool true) ∧ ∃ es' : List Lt, (es'.length = es.length + 2 ∧ ∀ e ∈ es', e ∈ es ∨ e.B.length ≤ t.L.length) ∧ Holds w' (pairW b s t :: pairFX c s t v u :: lateL d es' :: F) ∧ Str w w') := by
  obtain ⟨x, h1⟩ := pairW_1 H
  have h2 := pairFX_1 h1.pull2
  have H2 := Holds.ord (l := [_, _, _, _, _]) h2 [2, 0, 4, 1, 3] rfl
  simp only [List.map, List.getD_cons_zero, List.getD_cons_succ, List.cons_append, List.nil_append] at H2
  refine (P1.done_c b c d t es w _ H2 hL hes).mono ?_
  rintro e w' ⟨he, es', ⟨h1, h2⟩, H3, S⟩
  refine ⟨he, es', ⟨h1, fun e he' => (h2 e he').imp id fun h => ?_⟩, ?_, S⟩
  · rw [h]; exact P1.outB_len t
  · have H4 := Holds.ord (l := [_, _, _, _, _]) H3 [0, 4, 1, 3, 2] rfl
    simp only [List.map, List.getD_cons_zero, List.getD_cons_succ, List.cons_append, List.nil_append] at H4
    have H5 := Holds.ord (l := [_, _, _, _]) (pairW_1' H4) [1, 2, 0, 3] rfl
    simp only [List.map, List.getD_cons_zero, List.getD_cons_succ, List.cons_append, List.nil_append] at H5
    exact (pairFX_1' H5).swap
theorem pCell1 {v u : Value} (h : Holds w (pairFX c s t v u :: F)) : w.cell? ⟨c, 2, none⟩ = some u := by
  have h2 := (pairFX_open h).cell 2
  simp at h2
  exact h2
theorem pShape1 {v u : Value} (h : Holds w (pairFX c s t v u :: F)) : ∃ a k, u = .slice a t.L.length k := own_shape (pairFX_open h).pull2

theorem pairW_new (h : Holds w (pts b (.cells #[.slice none 0 0, .int .i64 0, .int .i64 0, .slice none 0 0, .int .i64 0, .int .i64 0] 49 (0, 0)) :: F)) : Holds w (pairW b ⟨[], 0⟩ ⟨[], 0⟩ :: F) := by
  have h1 : Holds w (own 5 1 (.slice none 0 0) 0 [] :: own 5 1 (.slice none 0 0) 0 [] :: pts b (.cells #[.slice none 0 0, .int .i64 0, .int .i64 0, .slice none 0 0, .int .i64 0, .int .i64 0] 49 (0, 0)) :: F) := h.own_nil.own_nil
  exact pairW_shut (v := .slice none 0 0) (u := .slice none 0 0) h1.pull2
theorem pairF_new (h : Holds w (pts b (.cells #[.slice none 0 0, .int .i64 0, .slice none 0 0, .int .i64 0] 52 (0, 0)) :: F)) : Holds w (pairF b ⟨[], 0⟩ ⟨[], 0⟩ :: F) := by
  have h1 : Holds w (own 5 1 (.slice none 0 0) 0 [] :: own 5 1 (.slice none 0 0) 0 [] :: pts b (.cells #[.slice none 0 0, .int .i64 0, .slice none 0 0, .int .i64 0] 52 (0, 0)) :: F) := h.own_nil.own_nil
  exact pairF_shut (v := .slice none 0 0) (u := .slice none 0 0) h1.pull2
def bk0 : Bk := ⟨.slice none 0 0, .slice none 0 0, 0, .slice none 0 0, .slice none 0 0, 0, .slice none 0 0, .slice none 0 0, 0, .slice none 0 0, .slice none 0 0, 0, 0, 0, 0⟩
theorem kindS_nil {TL TO E : TypeId} {mk : Nat → Nat → Value} (h : Holds w F) : Holds w (kindS TL TO E mk (.slice none 0 0) (.slice none 0 0) [] :: F) :=
  kindS_shut (l := []) (by simp) (Holds.own_nil (Holds.own_nil (rows_nil h)))
theorem KdOk.nil {c : Nat} : KdOk c [] 0 0 0 := ⟨by simp, by simp, by simp, by simp⟩
theorem book_new (h : Holds w (bkP b bk0 :: F)) : Holds w (bookS b 0 :: F) := by
  have h1 : Holds w (kB bk0 ⟨[], [], [], []⟩ :: kW bk0 ⟨[], [], [], []⟩ :: kS bk0 ⟨[], [], [], []⟩ :: kT bk0 ⟨[], [], [], []⟩ :: bkP b bk0 :: F) := kindS_nil (kindS_nil (kindS_nil (kindS_nil h)))
  have h2 := Holds.ord (l := [_, _, _, _, _]) h1 [4, 0, 1, 2, 3] rfl
  exact bookS_shut (k1 := 0) (k2 := 0) ⟨Nat.le_refl _, by decide, by decide, KdOk.nil, KdOk.nil, KdOk.nil, KdOk.nil⟩ h2
theorem and_one_w (x : Int) : bits .and .i64 x 1 = 0 ∨ bits .and .i64 x 1 = 1 := by
  unfold bits
  simp only []
  have h : (BitVec.ofInt IntKind.i64.bits x &&& BitVec.ofInt IntKind.i64.bits 1).toNat = (BitVec.ofInt IntKind.i64.bits x).toNat % 2 := by
    rw [BitVec.toNat_and]
    exact Nat.and_one_is_mod _
  rcases Nat.mod_two_eq_zero_or_one (BitVec.ofInt IntKind.i64.bits x).toNat with h0 | h0
  · left
    rw [h0] at h
    rw [h]
    decide
  · right
    rw [h0] at h
    rw [h]
    decide

theorem ops_cellsW {w : World} {g off n c : Nat} {l : List OpD} {k : Nat} (h : SliceIs w 4 (.slice (some ⟨g, off, none⟩) n c) l.length (opsv l)) (hk : k < l.length) :
    w.cell? ⟨g, off + k * 4, none⟩ = some (.int .i64 l[k].d) ∧ w.cell? ⟨g, off + k * 4 + 1, none⟩ = some (.int .i64 l[k].on) ∧
      w.cell? ⟨g, off + k * 4 + 2, none⟩ = some (.int .u64 l[k].x) ∧ w.cell? ⟨g, off + k * 4 + 3, none⟩ = some (.int .i64 l[k].n) := by
  obtain ⟨g', off', c', hv, _, _, h0, h1, h2, h3⟩ := ops_cells h hk
  simp only [Value.slice.injEq, Option.some.injEq, Addr.mk.injEq] at hv
  obtain ⟨⟨rfl, rfl, _⟩, _, _⟩ := hv
  exact ⟨h0, h1, h2, h3⟩

theorem slice_shapeW {w : World} {s n : Nat} {v : Value} {xs : List Value} (h : SliceIs w s v n xs) : ∃ a c, v = .slice a n c := by
  rcases h.2 with ⟨h, h'⟩ | ⟨a, c, h, _⟩
  · rw [h, h']; exact ⟨_, _, rfl⟩
  · exact ⟨_, _, h⟩

end Go.Proofs.Ytngnfdlkkedaaaa
