/- A logic of memory by blocks: what a list of assertions says of a world, each of blocks of its own; stores, new blocks, appends. No program is in sight. -/
import Derived.WalkKit
import Derived.BigQuiet
import Derived.Deep.QuietTactic
import Derived.ScopeJumps
import Derived.Deep.Frames
namespace Go.SL
set_option linter.unusedVariables false
set_option linter.unusedSimpArgs false
open Go.RowKit

abbrev Hp := Nat → Option Obj
abbrev HProp := Hp → Prop

def hemp : Hp := fun _ => none
def hone (k : Nat) (o : Obj) : Hp := fun j => if j = k then some o else none
def Apart (a b : Hp) : Prop := ∀ k, a k = none ∨ b k = none
def hjoin (a b : Hp) : Hp := fun k => (a k).or (b k)

def sep (P Q : HProp) : HProp := fun h => ∃ a b, Apart a b ∧ h = hjoin a b ∧ P a ∧ Q b
def all : List HProp → HProp
  | [] => fun h => h = hemp
  | P :: l => sep P (all l)

/-- The world holds these assertions, each of blocks of its own; of other blocks nothing is said. -/
def Holds (w : World) (l : List HProp) : Prop := ∃ h, all l h ∧ ∀ k o, h k = some o → w.heap[k]? = some o

/-- Streams and what has been laid. -/
structure Str (w w' : World) : Prop where
  os : w'.os = w.os
  tape : w'.tape = w.tape
  output : w'.output = w.output
  size : w.heap.size ≤ w'.heap.size

theorem Str.refl (w : World) : Str w w := ⟨rfl, rfl, rfl, Nat.le_refl _⟩
theorem Str.trans {a b c : World} (h : Str a b) (k : Str b c) : Str a c :=
  ⟨k.os.trans h.os, k.tape.trans h.tape, k.output.trans h.output, Nat.le_trans h.size k.size⟩
theorem Str.alloc {a w : World} (h : Str a w) (o : Obj) : Str a (w.alloc o) := h.trans ⟨rfl, rfl, rfl, by simp⟩
theorem Str.setCell {a w : World} (h : Str a w) (p : Addr) (v : Value) : Str a (w.setCell p v) := h.trans ⟨rfl, rfl, rfl, by simp⟩
theorem Str.drew {a w : World} (h : Str a w) : Str a w.drew := h.trans ⟨rfl, rfl, rfl, by simp⟩
theorem Str.drewN {a w : World} (h : Str a w) (n : Nat) : Str a (w.drewN n) := h.trans ⟨rfl, rfl, rfl, Nat.le_refl _⟩

theorem Apart.symm {a b : Hp} (h : Apart a b) : Apart b a := fun k => (h k).symm
theorem hjoin_comm {a b : Hp} (h : Apart a b) : hjoin a b = hjoin b a := by
  funext k
  rcases h k with e | e <;> simp [hjoin, e]
theorem hjoin_assoc (a b c : Hp) : hjoin (hjoin a b) c = hjoin a (hjoin b c) := by
  funext k
  simp [hjoin, Option.or_assoc]
theorem apart_join {a b c : Hp} : Apart a (hjoin b c) ↔ Apart a b ∧ Apart a c := by
  constructor
  · intro h
    refine ⟨fun k => ?_, fun k => ?_⟩
    · rcases h k with e | e
      · exact .inl e
      · simp [hjoin] at e; exact .inr e.1
    · rcases h k with e | e
      · exact .inl e
      · simp [hjoin] at e; exact .inr e.2
  · rintro ⟨h1, h2⟩ k
    rcases h1 k with e | e
    · exact .inl e
    · rcases h2 k with e' | e'
      · exact .inl e'
      · exact .inr (by simp [hjoin, e, e'])
theorem hjoin_emp (a : Hp) : hjoin a hemp = a := by funext k; simp [hjoin, hemp]
theorem emp_hjoin (a : Hp) : hjoin hemp a = a := by funext k; simp [hjoin, hemp]
theorem apart_emp (a : Hp) : Apart a hemp := fun _ => .inr rfl
theorem emp_apart (a : Hp) : Apart hemp a := fun _ => .inl rfl

theorem sep_swap {P Q R : HProp} {h : Hp} (hp : sep P (sep Q R) h) : sep Q (sep P R) h := by
  obtain ⟨a, b, hab, rfl, hP, c, d, hcd, rfl, hQ, hR⟩ := hp
  obtain ⟨hac, had⟩ := apart_join.1 hab
  refine ⟨c, hjoin a d, apart_join.2 ⟨hac.symm, hcd⟩, ?_, hQ, a, d, had, rfl, hP, hR⟩
  rw [← hjoin_assoc, hjoin_comm hac, hjoin_assoc]
theorem sep_assoc {P Q R : HProp} {h : Hp} (hp : sep (sep P Q) R h) : sep P (sep Q R) h := by
  obtain ⟨a, b, hab, rfl, ⟨c, d, hcd, rfl, hP, hQ⟩, hR⟩ := hp
  obtain ⟨h1, h2⟩ := apart_join.1 hab.symm
  exact ⟨c, hjoin d b, apart_join.2 ⟨hcd, h1.symm⟩, hjoin_assoc _ _ _, hP, d, b, h2.symm, rfl, hQ, hR⟩
theorem sep_assoc' {P Q R : HProp} {h : Hp} (hp : sep P (sep Q R) h) : sep (sep P Q) R h := by
  obtain ⟨a, b, hab, rfl, hP, c, d, hcd, rfl, hQ, hR⟩ := hp
  obtain ⟨hac, had⟩ := apart_join.1 hab
  exact ⟨hjoin a c, d, (apart_join.2 ⟨had.symm, hcd.symm⟩).symm, (hjoin_assoc _ _ _).symm, ⟨a, c, hac, rfl, hP, hQ⟩, hR⟩
theorem sep_mono {P Q P' Q' : HProp} {h : Hp} (hp : sep P Q h) (h1 : ∀ h, P h → P' h) (h2 : ∀ h, Q h → Q' h) : sep P' Q' h := by
  obtain ⟨a, b, hab, e, hP, hQ⟩ := hp
  exact ⟨a, b, hab, e, h1 _ hP, h2 _ hQ⟩
theorem all_append {l m : List HProp} {h : Hp} : all (l ++ m) h ↔ sep (all l) (all m) h := by
  induction l generalizing h with
  | nil =>
    constructor
    · intro hm
      exact ⟨hemp, h, emp_apart h, (emp_hjoin h).symm, rfl, hm⟩
    · rintro ⟨a, b, _, rfl, ha, hb⟩
      rw [show a = hemp from ha, emp_hjoin]
      exact hb
  | cons P l ih =>
    constructor
    · intro hp
      exact sep_assoc' (sep_mono hp (fun _ x => x) (fun _ x => ih.1 x))
    · intro hp
      exact sep_mono (sep_assoc hp) (fun _ x => x) (fun _ x => ih.2 x)
theorem all_perm {l m : List HProp} (hp : l.Perm m) : ∀ {h : Hp}, all l h → all m h := by
  induction hp with
  | nil => exact fun h => h
  | cons P _ ih => exact fun h => sep_mono h (fun _ x => x) (fun _ x => ih x)
  | swap P Q l => exact fun h => sep_swap h
  | trans _ _ i j => exact fun h => j (i h)

section holds
variable {w w' : World} {P Q : HProp} {l m F : List HProp}

theorem Holds.perm (h : Holds w l) (hp : l.Perm m) : Holds w m := let ⟨x, hx, hw⟩ := h; ⟨x, all_perm hp hx, hw⟩
theorem Holds.swap (h : Holds w (P :: Q :: F)) : Holds w (Q :: P :: F) := h.perm (.swap _ _ _)
theorem Holds.pull {l1 l2 : List HProp} (h : Holds w (l1 ++ P :: l2)) : Holds w (P :: (l1 ++ l2)) := h.perm List.perm_middle
theorem Holds.pull2 {A B C : HProp} (h : Holds w (A :: B :: C :: F)) : Holds w (C :: A :: B :: F) := Holds.pull (l1 := [A, B]) h
theorem Holds.pull3 {A B C D : HProp} (h : Holds w (A :: B :: C :: D :: F)) : Holds w (D :: A :: B :: C :: F) := Holds.pull (l1 := [A, B, C]) h
theorem Holds.pull4 {A B C D E : HProp} (h : Holds w (A :: B :: C :: D :: E :: F)) : Holds w (E :: A :: B :: C :: D :: F) := Holds.pull (l1 := [A, B, C, D]) h
theorem Holds.mono (h : Holds w (P :: F)) (hp : ∀ x, P x → Q x) : Holds w (Q :: F) := let ⟨x, hx, hw⟩ := h; ⟨x, sep_mono hx hp (fun _ y => y), hw⟩
/-- An assertion about a heap that has a witness. -/
theorem Holds.elim {α : Type} {p : α → HProp} (h : Holds w ((fun x => ∃ a, p a x) :: F)) : ∃ a, Holds w (p a :: F) := by
  obtain ⟨x, ⟨a, b, hab, rfl, ⟨v, hv⟩, hb⟩, hw⟩ := h
  exact ⟨v, _, ⟨a, b, hab, rfl, hv, hb⟩, hw⟩
theorem Holds.elimP {p : Prop} (h : Holds w ((fun x => p ∧ P x) :: F)) : p ∧ Holds w (P :: F) := by
  obtain ⟨x, ⟨a, b, hab, rfl, ⟨hv, hp⟩, hb⟩, hw⟩ := h
  exact ⟨hv, _, ⟨a, b, hab, rfl, hp, hb⟩, hw⟩
theorem Holds.split (h : Holds w (sep P Q :: F)) : Holds w (P :: Q :: F) := let ⟨x, hx, hw⟩ := h; ⟨x, sep_assoc hx, hw⟩
theorem Holds.unsplit (h : Holds w (P :: Q :: F)) : Holds w (sep P Q :: F) := let ⟨x, hx, hw⟩ := h; ⟨x, sep_assoc' hx, hw⟩
theorem Holds.tail (h : Holds w (P :: F)) : Holds w F := by
  obtain ⟨x, ⟨a, b, hab, rfl, _, hb⟩, hw⟩ := h
  refine ⟨b, hb, fun k o hk => hw k o ?_⟩
  rcases hab k with e | e
  · simp [hjoin, e, hk]
  · rw [e] at hk; cases hk
theorem Holds.head (h : Holds w (P :: F)) : Holds w [P] := by
  obtain ⟨x, ⟨a, b, hab, rfl, ha, hb⟩, hw⟩ := h
  refine ⟨hjoin a hemp, ⟨a, hemp, apart_emp a, rfl, ha, rfl⟩, fun k o hk => hw k o ?_⟩
  rw [hjoin_emp] at hk
  simp [hjoin, hk]
theorem Holds.nil (w : World) : Holds w [] := ⟨hemp, rfl, fun k o h => by cases h⟩
theorem Holds.dropEmp (h : Holds w ((fun x => x = hemp) :: F)) : Holds w F := h.tail
theorem Holds.addEmp (h : Holds w F) : Holds w ((fun x => x = hemp) :: F) := by
  obtain ⟨x, hx, hw⟩ := h
  exact ⟨x, ⟨hemp, x, emp_apart x, (emp_hjoin x).symm, rfl, hx⟩, hw⟩
/-- Whatever leaves the blocks that are there. -/
theorem Holds.keep (h : Holds w l) (hk : ∀ k, k < w.heap.size → w'.heap[k]? = w.heap[k]?) : Holds w' l := by
  obtain ⟨x, hx, hw⟩ := h
  refine ⟨x, hx, fun k o e => ?_⟩
  have := hw k o e
  rw [hk k (Array.getElem?_eq_some_iff.1 this).1, this]
theorem Holds.drew (h : Holds w l) : Holds w.drew l := h
theorem Holds.drewN (h : Holds w l) (n : Nat) : Holds (w.drewN n) l := h

/-- A block. -/
def pts (k : Nat) (o : Obj) : HProp := fun h => h = hone k o

theorem Holds.heap {k : Nat} {o : Obj} (h : Holds w (pts k o :: F)) : w.heap[k]? = some o := by
  obtain ⟨x, ⟨a, b, hab, rfl, ha, hb⟩, hw⟩ := h
  refine hw k o ?_
  rw [show a = _ from ha]
  simp [hjoin, hone]
theorem Holds.lt {k : Nat} {o : Obj} (h : Holds w (pts k o :: F)) : k < w.heap.size := (Array.getElem?_eq_some_iff.1 h.heap).1
theorem Holds.cell {k : Nat} {cs : Array Value} {T : TypeId} {fz : Nat × Nat} (h : Holds w (pts k (.cells cs T fz) :: F)) (i : Nat) : w.cell? ⟨k, i, none⟩ = cs[i]? := by
  simp [World.cell?, h.heap]
theorem Holds.free {k : Nat} {cs : Array Value} {T : TypeId} (h : Holds w (pts k (.cells cs T (0, 0)) :: F)) (i : Nat) : w.frozen? ⟨k, i, none⟩ = false := by
  simp [World.frozen?, h.heap]
theorem Holds.ne {j k : Nat} {o p : Obj} (h : Holds w (pts j o :: pts k p :: F)) : j ≠ k := by
  obtain ⟨x, ⟨a, b, hab, rfl, ha, c, d, hcd, rfl, hc, hd⟩, hw⟩ := h
  rintro rfl
  have := (apart_join.1 hab).1 j
  rw [show a = _ from ha, show c = _ from hc] at this
  simp [hone] at this

theorem Holds.change {k : Nat} {o o' : Obj} (h : Holds w (pts k o :: F)) (hk : w'.heap[k]? = some o') (hj : ∀ j, j ≠ k → j < w.heap.size → w'.heap[j]? = w.heap[j]?) : Holds w' (pts k o' :: F) := by
  obtain ⟨x, ⟨a, b, hab, rfl, ha, hb⟩, hw⟩ := h
  have hbk : b k = none := by
    rcases hab k with e | e
    · rw [show a = _ from ha] at e; simp [hone] at e
    · exact e
  refine ⟨hjoin (hone k o') b, ⟨hone k o', b, fun j => ?_, rfl, rfl, hb⟩, fun j p hj' => ?_⟩
  · by_cases e : j = k
    · subst e; exact .inr hbk
    · exact .inl (by simp [hone, e])
  · by_cases e : j = k
    · subst e
      simp [hjoin, hone] at hj'
      subst hj'
      exact hk
    · have : w.heap[j]? = some p := by
        refine hw j p ?_
        rw [show a = _ from ha]
        simpa [hjoin, hone, e] using hj'
      rw [hj j e (Array.getElem?_eq_some_iff.1 this).1, this]

/-- A store into a block. -/
theorem Holds.store {k : Nat} {cs : Array Value} {T : TypeId} {fz : Nat × Nat} (h : Holds w (pts k (.cells cs T fz) :: F)) (i : Nat) (v : Value) :
    Holds (w.setCell ⟨k, i, none⟩ v) (pts k (.cells (cs.setIfInBounds i v) T fz) :: F) := by
  refine h.change ?_ (fun j hj _ => ?_)
  · simp [World.setCell, Array.getElem?_modify, h.heap]
  · simp [World.setCell, Array.getElem?_modify, Ne.symm hj]
/-- A new block. -/
theorem Holds.alloc (h : Holds w F) (o : Obj) : Holds (w.alloc o) (pts w.heap.size o :: F) := by
  obtain ⟨x, hx, hw⟩ := h
  have hnone : ∀ k, w.heap.size ≤ k → x k = none := fun k hk => by
    cases e : x k with
    | none => rfl
    | some o => have := (Array.getElem?_eq_some_iff.1 (hw k o e)).1; omega
  refine ⟨hjoin (hone w.heap.size o) x, ⟨_, x, fun k => ?_, rfl, rfl, hx⟩, fun k p hk => ?_⟩
  · by_cases e : k = w.heap.size
    · exact .inr (hnone k (by omega))
    · exact .inl (by simp [hone, e])
  · by_cases e : k = w.heap.size
    · subst e
      simp [hjoin, hone] at hk
      subst hk
      exact heap_alloc_new w _
    · have hxk : x k = some p := by simpa [hjoin, hone, e] using hk
      have := hw k p hxk
      have hlt := (Array.getElem?_eq_some_iff.1 this).1
      rw [heap_alloc_old w _ hlt, this]
/-- A new block of which nothing is kept. -/
theorem Holds.alloc' (h : Holds w F) (o : Obj) : Holds (w.alloc o) F := (h.alloc o).tail

/-- What lay below a number of blocks lies there as in an older world. -/
def old (W : World) (B : Nat) : HProp := fun h => h = fun k => if k < B then W.heap[k]? else none

theorem Holds.start (W : World) : Holds W [old W W.heap.size] := by
  refine ⟨hjoin (fun k => if k < W.heap.size then W.heap[k]? else none) hemp, ⟨_, _, apart_emp _, rfl, rfl, rfl⟩, fun k o hk => ?_⟩
  rw [hjoin_emp] at hk
  simp at hk
  exact hk.2
theorem Holds.old_block {W : World} {B : Nat} (hB : B ≤ W.heap.size) (h : Holds w (old W B :: F)) : ∀ k, k < B → w.heap[k]? = W.heap[k]? := by
  obtain ⟨x, ⟨a, b, hab, rfl, ha, hb⟩, hw⟩ := h
  intro k hk
  have h1 : W.heap[k]? = some W.heap[k] := Array.getElem?_eq_getElem (by omega)
  rw [h1]
  refine hw k _ ?_
  rw [show a = _ from ha]
  simp [hjoin, hk, h1]
theorem Holds.below {W : World} {B : Nat} (hB : B ≤ W.heap.size) (h : Holds w (old W B :: F)) (hs : Str W w) : Below B W w :=
  ⟨hs.os, hs.tape, hs.output, hs.size, fun k hk => h.old_block hB k hk⟩
end holds

/-! ### Slices -/

/-- A slice's elements are in the world, wherever they lie: n elements of s cells. -/
def SliceIs (w : World) (s : Nat) (v : Value) (n : Nat) (xs : List Value) : Prop :=
  xs.length = n * s ∧ ((v = .slice none 0 0 ∧ n = 0) ∨
    ∃ a cap, v = .slice (some a) n cap ∧ n ≤ cap ∧ cap ≤ maxLen ∧ ∀ j x, xs[j]? = some x → w.cell? (a.add j) = some x)

/-- What holds there shows that slice's elements. -/
def Sees (F : List HProp) (s : Nat) (v : Value) (n : Nat) (xs : List Value) : Prop := ∀ w, Holds w F → SliceIs w s v n xs

/-- A slice with a row of its own: n elements of s cells of type E, the rest of the row. -/
def ownR (E : TypeId) (s : Nat) (v : Value) (n : Nat) (xs rest : List Value) : HProp := fun h =>
  xs.length = n * s ∧ ((v = .slice none 0 0 ∧ n = 0 ∧ rest = [] ∧ h = hemp) ∨
    ∃ g cap, v = .slice (some ⟨g, 0, none⟩) n cap ∧ n ≤ cap ∧ cap ≤ maxLen ∧ xs.length + rest.length = cap * s ∧ h = hone g (.cells (xs ++ rest).toArray E (0, 0)))
def own (E : TypeId) (s : Nat) (v : Value) (n : Nat) (xs : List Value) : HProp := fun h => ∃ rest, ownR E s v n xs rest h

section slices
variable {w w' : World} {F : List HProp} {E : TypeId} {s n : Nat} {v : Value} {xs rest : List Value}

theorem add_plain' (g off j : Nat) : (⟨g, off, none⟩ : Addr).add j = ⟨g, off + j, none⟩ := by
  unfold Addr.add
  split
  · subst_vars; rfl
  · rfl

theorem block_add (a : Addr) (j : Nat) : (a.add j).block = a.block := by unfold Addr.add; split <;> rfl
/-- Where there is an element the address is plain. -/
theorem SliceIs.plain {x : Value} (h : SliceIs w s v n xs) (hx : xs[0]? = some x) : ∃ g off cap, v = .slice (some ⟨g, off, none⟩) n cap ∧ n ≤ cap ∧ cap ≤ maxLen ∧ ∀ j x, xs[j]? = some x → w.cell? ⟨g, off + j, none⟩ = some x := by
  rcases h.2 with ⟨_, h0⟩ | ⟨⟨g, off, spot⟩, cap, rfl, h1, h2, h3⟩
  · have := h.1
    rw [h0, Nat.zero_mul] at this
    rw [List.eq_nil_of_length_eq_zero this] at hx
    cases hx
  · have h4 := h3 0 x hx
    have : spot = none := by
      have := World.cell?_spot h4
      simpa [Addr.add] using this
    subst this
    exact ⟨g, off, cap, rfl, h1, h2, fun j x hj => by have := h3 j x hj; rwa [add_plain'] at this⟩

theorem Sees.cons {P : HProp} (h : Sees F s v n xs) : Sees (P :: F) s v n xs := fun w hw => h w hw.tail
theorem Sees.perm {m : List HProp} (h : Sees F s v n xs) (hp : m.Perm F) : Sees m s v n xs := fun w hw => h w (hw.perm hp)
theorem Sees.app {m : List HProp} (h : Sees F s v n xs) : Sees (m ++ F) s v n xs := by
  induction m with
  | nil => exact h
  | cons P m ih => exact ih.cons

/-- Either nil, or a block of its own that is known whole. -/
theorem Holds.ownR_cases (h : Holds w (ownR E s v n xs rest :: F)) :
    xs.length = n * s ∧ ((v = .slice none 0 0 ∧ n = 0 ∧ xs = [] ∧ rest = [] ∧ Holds w F) ∨
      ∃ g cap, v = .slice (some ⟨g, 0, none⟩) n cap ∧ n ≤ cap ∧ cap ≤ maxLen ∧ xs.length + rest.length = cap * s ∧ Holds w (pts g (.cells (xs ++ rest).toArray E (0, 0)) :: F)) := by
  obtain ⟨x, ⟨a, b, hab, rfl, ⟨hl, ha⟩, hb⟩, hw⟩ := h
  refine ⟨hl, ?_⟩
  rcases ha with ⟨rfl, rfl, rfl, rfl⟩ | ⟨g, cap, rfl, h1, h2, h3, rfl⟩
  · refine .inl ⟨rfl, rfl, List.eq_nil_of_length_eq_zero (by simpa using hl), rfl, b, hb, ?_⟩
    intro k o hk
    exact hw k o (by simpa [hjoin, hemp] using hk)
  · exact .inr ⟨g, cap, rfl, h1, h2, h3, _, ⟨_, b, hab, rfl, rfl, hb⟩, hw⟩

theorem Holds.own_intro (h : Holds w (ownR E s v n xs rest :: F)) : Holds w (own E s v n xs :: F) := h.mono fun _ hx => ⟨rest, hx⟩
theorem Holds.own_elim (h : Holds w (own E s v n xs :: F)) : ∃ rest, Holds w (ownR E s v n xs rest :: F) := Holds.elim h

theorem Holds.ownR_nil (h : Holds w F) : Holds w (ownR E s (.slice none 0 0) 0 [] [] :: F) := by
  obtain ⟨x, hx, hw⟩ := h
  exact ⟨x, ⟨hemp, x, emp_apart x, (emp_hjoin x).symm, ⟨by simp, .inl ⟨rfl, rfl, rfl, rfl⟩⟩, hx⟩, hw⟩
theorem Holds.own_nil (h : Holds w F) : Holds w (own E s (.slice none 0 0) 0 [] :: F) := (h.ownR_nil (E := E) (s := s)).own_intro

/-- A block becomes a slice's row. -/
theorem Holds.ownR_of_pts {g cap : Nat} {cs : Array Value} (h : Holds w (pts g (.cells cs E (0, 0)) :: F)) (hn : n ≤ cap) (hc : cap ≤ maxLen) (hl : xs.length = n * s) (hcs : cs.toList = xs ++ rest)
    (hlen : xs.length + rest.length = cap * s) : Holds w (ownR E s (.slice (some ⟨g, 0, none⟩) n cap) n xs rest :: F) :=
  h.mono fun x hx => ⟨hl, .inr ⟨g, cap, rfl, hn, hc, hlen, by rw [← hcs]; exact hx⟩⟩
theorem Holds.own_of_pts {g cap : Nat} {cs : Array Value} (h : Holds w (pts g (.cells cs E (0, 0)) :: F)) (hn : n ≤ cap) (hc : cap ≤ maxLen) (hl : xs.length = n * s) (hcs : cs.toList = xs ++ rest)
    (hlen : xs.length + rest.length = cap * s) : Holds w (own E s (.slice (some ⟨g, 0, none⟩) n cap) n xs :: F) := (h.ownR_of_pts hn hc hl hcs hlen).own_intro

theorem Holds.ownR_is (h : Holds w (ownR E s v n xs rest :: F)) : SliceIs w s v n xs := by
  obtain ⟨hl, h⟩ := h.ownR_cases
  refine ⟨hl, ?_⟩
  rcases h with ⟨hv, hn, _⟩ | ⟨g, cap, hv, h1, h2, h3, h4⟩
  · exact .inl ⟨hv, hn⟩
  · refine .inr ⟨⟨g, 0, none⟩, cap, hv, h1, h2, fun j x hj => ?_⟩
    rw [add_plain', Nat.zero_add, h4.cell j]
    simp only [List.getElem?_toArray]
    rw [List.getElem?_append_left (List.getElem?_eq_some_iff.1 hj).1, hj]
theorem Holds.own_is (h : Holds w (own E s v n xs :: F)) : SliceIs w s v n xs := let ⟨_, h⟩ := h.own_elim; h.ownR_is
theorem sees_own : Sees (own E s v n xs :: F) s v n xs := fun _ h => h.own_is
theorem sees_ownR : Sees (ownR E s v n xs rest :: F) s v n xs := fun _ h => h.ownR_is

/-- A slice of old memory is seen by whoever holds the old memory. -/
theorem sees_old {W : World} {B : Nat} (h : SliceIs W s v n xs) (hB : B ≤ W.heap.size) (hv : ∀ a l c, v = .slice (some a) l c → xs ≠ [] → a.block < B) : Sees (old W B :: F) s v n xs := by
  intro w hw
  refine ⟨h.1, ?_⟩
  rcases h.2 with h0 | ⟨a, cap, rfl, h1, h2, h3⟩
  · exact .inl h0
  · refine .inr ⟨a, cap, rfl, h1, h2, fun j x hj => ?_⟩
    have hg : a.block < B := hv _ _ _ rfl (by rintro rfl; simp at hj)
    rw [World.cell?_of_block (w := W) (by rw [block_add]; exact hw.old_block hB _ hg)]
    exact h3 j x hj
/-- What holds a slice of the whole world, as it stands, shows it. -/
theorem SliceIs.keep (h : SliceIs w s v n xs) (hk : ∀ k, k < w.heap.size → w'.heap[k]? = w.heap[k]?) : SliceIs w' s v n xs := by
  refine ⟨h.1, ?_⟩
  rcases h.2 with h0 | ⟨a, cap, rfl, h1, h2, h3⟩
  · exact .inl h0
  · refine .inr ⟨a, cap, rfl, h1, h2, fun j x hj => ?_⟩
    have := h3 j x hj
    rw [World.cell?_of_block (w := w) (hk _ (World.block_lt_of_cell? w _ this))]
    exact this
theorem SliceIs.drew (h : SliceIs w s v n xs) : SliceIs w.drew s v n xs := h
theorem SliceIs.alloc (h : SliceIs w s v n xs) (o : Obj) : SliceIs (w.alloc o) s v n xs := h.keep fun _ hk => heap_alloc_old w o hk

/-- A literal's row, just laid. -/
theorem slice_new (w : World) (cs : Array Value) (E : TypeId) (fz : Nat × Nat) (s n : Nat) (hs : cs.size = n * s) (hm : n ≤ maxLen) : SliceIs (w.alloc (.cells cs E fz)) s (.slice (some ⟨w.heap.size, 0, none⟩) n n) n cs.toList := by
  refine ⟨by simpa using hs, .inr ⟨⟨w.heap.size, 0, none⟩, n, rfl, Nat.le_refl n, hm, fun j x hj => ?_⟩⟩
  rw [add_plain', Nat.zero_add, cell_of_row _ _ _ cs E fz (heap_alloc_new w _)]
  simpa using hj

/-- A row that is not empty is a block. -/
theorem Holds.own_block (h : Holds w (own E s v n xs :: F)) (hn : 0 < n) : ∃ g cap rest, v = .slice (some ⟨g, 0, none⟩) n cap ∧ n ≤ cap ∧ cap ≤ maxLen ∧ xs.length = n * s ∧ xs.length + rest.length = cap * s ∧ Holds w (pts g (.cells (xs ++ rest).toArray E (0, 0)) :: F) := by
  obtain ⟨rest, h⟩ := h.own_elim
  obtain ⟨hl, h⟩ := h.ownR_cases
  rcases h with ⟨_, h0, _⟩ | ⟨g, cap, h1, h2, h3, h4, h5⟩
  · omega
  · exact ⟨g, cap, rest, h1, h2, h3, hl, h4, h5⟩

section append
variable {P : Program} {m : Nat} {x : Value} {news : List Value}

/-- append onto a slice with a row of its own: the elements of whatever slice is there (nil, too). -/
theorem run_append_sl (t ty : TypeId) (i : TypeInfo) (z : Value) {bytes : Nat} (ht : P.underlying t = some (.slice E)) (hi : P.info? E = some i) (hz : i.zero = some z)
    (hsize : i.size = s) (hby : i.bytes = bytes) (hzs : z.cells.size = s) (hsz : 0 < s) (h : Holds w (own E s v n xs :: F)) (hx : SliceIs w s x m news) (h1 : ∀ u ∈ news, u.oneCell' = true)
    (hbytes : (n + m) * bytes ≤ 140737488355328) (h63 : n + m ≤ maxLen) :
    ∃ v' w', (Builtin.append_ #[t, t] ty #[v, x]).run P w = .ok v' w' ∧ Holds w' (own E s v' (n + m) (xs ++ news) :: F) ∧ Str w w' := by
  subst hsize
  subst hby
  obtain ⟨rest, h0⟩ := h.own_elim
  clear h
  obtain ⟨hl, h⟩ := h0.ownR_cases
  clear h0
  obtain ⟨hln, hx⟩ := hx
  have h63' : n + m ≤ 9223372036854775807 := by simpa [maxLen] using h63
  have hlen : (xs ++ news).length = (n + m) * i.size := by rw [List.length_append, hl, hln, Nat.add_mul]
  rcases hx with ⟨rfl, rfl⟩ | ⟨ad, cap', rfl, h1', h2', h3'⟩
  · have hnil : news = [] := List.eq_nil_of_length_eq_zero (by simpa using hln)
    subst hnil
    simp only [List.append_nil, Nat.add_zero] at *
    refine ⟨v, w, ?_, ?_, Str.refl w⟩
    · rcases h with ⟨rfl, rfl, rfl, rfl, h⟩ | ⟨g, cap, rfl, hn, hc, hr, h⟩
      · simp [Builtin.append_, run_underlying ht, sizeOf, typeInfo, hi, Builtin.lenOf, Builtin.firstCells]
      · simp [Builtin.append_, run_underlying ht, sizeOf, typeInfo, hi, Builtin.lenOf, Builtin.firstCells, hn, storeCells]
    · rcases h with ⟨rfl, rfl, rfl, rfl, h⟩ | ⟨g, cap, rfl, hn, hc, hr, h⟩
      · exact h.own_nil
      · exact h.own_of_pts hn hc hl rfl hr
  · have hnews : ∀ j u, news[j]? = some u → w.cell? (ad.add j) = some u := h3'
    rcases h with ⟨rfl, rfl, rfl, rfl, h⟩ | ⟨g, cap, rfl, hn, hc, hr, h⟩
    · by_cases hm : m = 0
      · subst hm
        have hnil : news = [] := List.eq_nil_of_length_eq_zero (by simpa using hln)
        subst hnil
        refine ⟨.slice none 0 0, w, ?_, h.own_nil, Str.refl w⟩
        simp [Builtin.append_, run_underlying ht, sizeOf, typeInfo, hi, Builtin.lenOf, Builtin.firstCells, loadCells, loadCellsFrom]
      · have hr := run_append_nil (P := P) w t ty E i z ht hi hz ad m cap' news hln hnews (by omega) (by omega) (by simp only [Nat.zero_add] at hbytes; omega)
        refine ⟨_, _, hr, ?_, (Str.refl w).drew.alloc _⟩
        have hge := grownCap_ge w m 0 E
        have hcm : grownCap w m 0 E ≤ maxLen := grownCap_le_maxLen w m 0 E (by omega)
        have hh := Holds.alloc (w := w.drew) (F := F) h (.cells (news.toArray ++ Builtin.zeroCells z.cells (grownCap w m 0 E - m)) E)
        simp only [Nat.zero_add, List.nil_append]
        refine hh.own_of_pts (rest := (Builtin.zeroCells z.cells (grownCap w m 0 E - m)).toList) hge hcm hln (by simp) ?_
        rw [hln, Array.length_toList, size_zeroCells, hzs, ← Nat.add_mul]
        congr 1
        omega
    · by_cases hroom : n + m ≤ cap
      · have hfit : n * i.size + news.length ≤ (xs ++ rest).toArray.size := by
          rw [hln, ← Nat.add_mul]
          simp only [List.size_toArray, List.length_append, hr]
          exact Nat.mul_le_mul_right _ hroom
        have hrun := run_append_room (P := P) w t ty E i ht hi g n cap (xs ++ rest).toArray h.heap ad m cap' news hln hnews h1 hroom hfit
        refine ⟨_, _, hrun, ?_, ⟨rfl, rfl, rfl, by simp [World.setRow]⟩⟩
        have hset := h.change (w' := w.setRow g ((xs ++ rest).toArray.toList.take (n * i.size) ++ news ++ (xs ++ rest).toArray.toList.drop (n * i.size + news.length)).toArray)
          (setRow_heap w g _ _ E _ h.heap) (fun j hj _ => setRow_other w g j _ hj)
        refine hset.own_of_pts (rest := rest.drop news.length) hroom hc hlen ?_ ?_
        · simp only [← hl, List.take_left]
          congr 1
          rw [List.drop_append, List.drop_eq_nil_of_le (by omega), List.nil_append]
          congr 1
          omega
        · have : news.length ≤ rest.length := by
            have h2 : (n + m) * i.size ≤ cap * i.size := Nat.mul_le_mul_right _ hroom
            rw [Nat.add_mul] at h2
            omega
          rw [List.length_append, List.length_drop]
          omega
      · have holds : ∀ j u, xs[j]? = some u → w.cell? ((⟨g, 0, none⟩ : Addr).add j) = some u := fun j u hu => by
          rw [add_plain', Nat.zero_add, h.cell j]
          simp only [List.getElem?_toArray]
          rw [List.getElem?_append_left (List.getElem?_eq_some_iff.1 hu).1, hu]
        have hrun := run_append_grow (P := P) w t ty E i z ht hi hz ⟨g, 0, none⟩ n cap xs hl holds ad m cap' news hln hnews (by omega) (by omega) (growslice_fits (by omega) hbytes)
        refine ⟨_, _, hrun, ?_, (Str.refl w).drew.alloc _⟩
        have hge := grownCap_ge w (n + m) cap E
        have hcm : grownCap w (n + m) cap E ≤ maxLen := grownCap_le_maxLen w (n + m) cap E (by omega)
        have hh := Holds.alloc (w := w.drew) (F := F) h.tail (.cells (xs.toArray ++ news.toArray ++ Builtin.zeroCells z.cells (grownCap w (n + m) cap E - (n + m))) E)
        refine hh.own_of_pts (rest := (Builtin.zeroCells z.cells (grownCap w (n + m) cap E - (n + m))).toList) hge hcm hlen (by simp) ?_
        rw [hlen, Array.length_toList, size_zeroCells, hzs, ← Nat.add_mul]
        congr 1
        omega

theorem wp_append_sl {o : Oper} {a : Act} {K : Act → World → Prop} {Q : Exit → Act → World → Prop} (so xo : Operand) (t : TypeId)
    (ho : o.op = .call { callee := .builtin .append, args := #[so, xo], argTypes := #[t, t] }) (i : TypeInfo) (z : Value) {bytes : Nat} (ht : P.underlying t = some (.slice E)) (hi : P.info? E = some i) (hz : i.zero = some z)
    (hsize : i.size = s) (hby : i.bytes = bytes) (hzs : z.cells.size = s) (hsz : 0 < s) (hs : a.eval so = v) (hxo : a.eval xo = x) (h : Holds w (own E s v n xs :: F)) (hx : SliceIs w s x m news) (h1 : ∀ u ∈ news, u.oneCell' = true)
    (hbytes : (n + m) * bytes ≤ 140737488355328) (h63 : n + m ≤ maxLen)
    (hK : ∀ v' w', Holds w' (own E s v' (n + m) (xs ++ news) :: F) → Str w w' → K (a.put o.dst v') w') : o.wp P a w K Q := by
  obtain ⟨v', w', hr, h2, h3⟩ := run_append_sl (P := P) t o.type i z ht hi hz hsize hby hzs hsz h hx h1 hbytes h63
  unfold Oper.wp execOp
  simp only [ho, resolve, invoke, builtin, Sem.run_bind, Sem.run_pure, Result.andThen_ok, List.map_toArray, List.map_cons, List.map_nil, hs, hxo, hr]
  exact hK v' w' h2 h3

theorem wpList_append_sl {ops : Array Oper} {rest : List Oper} {o : Oper} {a : Act} {Q : Exit → Act → World → Prop} (hgd : o.guard = none) (so xo : Operand) (t : TypeId)
    (ho : o.op = .call { callee := .builtin .append, args := #[so, xo], argTypes := #[t, t] }) (i : TypeInfo) (z : Value) {bytes : Nat} (ht : P.underlying t = some (.slice E)) (hi : P.info? E = some i) (hz : i.zero = some z)
    (hsize : i.size = s) (hby : i.bytes = bytes) (hzs : z.cells.size = s) (hsz : 0 < s) (hs : a.eval so = v) (hxo : a.eval xo = x) (h : Holds w (own E s v n xs :: F)) (hx : SliceIs w s x m news) (h1 : ∀ u ∈ news, u.oneCell' = true)
    (hbytes : (n + m) * bytes ≤ 140737488355328) (h63 : n + m ≤ maxLen)
    (hK : ∀ v' w', Holds w' (own E s v' (n + m) (xs ++ news) :: F) → Str w w' → wpList P ops Q rest (a.put o.dst v') w') : wpList P ops Q (o :: rest) a w :=
  wpList_plain hgd fun _ hK' => wp_append_sl so xo t ho i z ht hi hz hsize hby hzs hsz hs hxo h hx h1 hbytes h63 fun v' w' h2 h3 => hK' _ _ (hK v' w' h2 h3)
end append
end slices

/-- A scope that begins with the label to which it jumps back: what holds at every jump holds at the start. -/
theorem wp_scope_back {P : Program} {a : Act} {w : World} {Q : Exit → Act → World → Prop} {rest : Code} (l : Nat) (J : Act → World → Prop) (μ : Act → World → Nat) (h0 : J a w)
    (pass : ∀ a w, J a w → rest.wp P (Exit.jump l (fun a' w' => J a' w' ∧ μ a' w' < μ a w) Q) a w) : (Code.scope (.seq (.label l) rest)).wp P Q a w := by
  refine wp_scope_jumps l J μ (rest := .seq .skip rest) (by simp [findLabel]) (wp_seq (wp_label (wp_mono (pass a w h0) ?_))) (fun a w hJ => wp_seq (wp_skip (pass a w hJ)))
  intro e a' w' h
  cases e with
  | goto l' => exact ⟨h.1, h.2.1⟩
  | _ => exact h

/-- A scope in which the run jumps back to a label: one proof of the code behind it serves the first way and every jump. -/
theorem wp_scope_label {P : Program} {a : Act} {w : World} {Q : Exit → Act → World → Prop} {c rest : Code} (l : Nat) (J : Act → World → Prop) (μ : Act → World → Nat) (hf : findLabel c l = some (.seq .skip rest))
    (pass : ∀ a w, J a w → rest.wp P (Exit.jump l (fun a' w' => J a' w' ∧ μ a' w' < μ a w) Q) a w)
    (first : (∀ a w, J a w → rest.wp P (Exit.jump l J Q) a w) → c.wp P (Exit.jump l J Q) a w) : (Code.scope c).wp P Q a w := by
  refine wp_scope_jumps l J μ (rest := .seq .skip rest) hf (first fun a w hJ => wp_mono (pass a w hJ) ?_) (fun a w hJ => wp_seq (wp_skip (pass a w hJ)))
  intro e a' w' h
  cases e with
  | goto l' => exact ⟨h.1, h.2.1⟩
  | _ => exact h

end Go.SL
