/- Lists that share rows, all of them marked: the store of rows, entries onto them, and append. No program is in sight. -/
import Derived.Test.YtakaolcajbhkiaaGreatSL
namespace Go.SL
set_option linter.unusedVariables false
set_option linter.unusedSimpArgs false
open Go.RowKit

/-- A row: its block, its room, its mark, so many marked. -/
structure Rw where
  g : Nat
  cap : Nat
  m : Nat
  n : Nat
def mks (mk : Nat → Nat → Value) (m n : Nat) : List Value := (List.range n).map (mk m)
@[simp] theorem length_mks (mk : Nat → Nat → Value) (m n : Nat) : (mks mk m n).length = n := by simp [mks]
theorem mks_succ (mk : Nat → Nat → Value) (m n : Nat) : mks mk m (n + 1) = mks mk m n ++ [mk m n] := by simp [mks, List.range_succ]
theorem mks_get {mk : Nat → Nat → Value} {m n i : Nat} (h : i < n) : (mks mk m n)[i]? = some (mk m i) := by simp [mks, h]
def rowS (E : TypeId) (mk : Nat → Nat → Value) (r : Rw) : HProp := fun h => ∃ rest : List Value, (r.n + rest.length = r.cap ∧ r.cap ≤ maxLen) ∧ h = hone r.g (.cells (mks mk r.m r.n ++ rest).toArray E (0, 0))
def rowsS (E : TypeId) (mk : Nat → Nat → Value) (l : List Rw) : HProp := all (l.map (rowS E mk))

section
variable {w w' : World} {F : List HProp} {E : TypeId} {mk : Nat → Nat → Value} {l : List Rw} {r : Rw}

theorem row_open (h : Holds w (rowS E mk r :: F)) : ∃ rest : List Value, r.n + rest.length = r.cap ∧ r.cap ≤ maxLen ∧ Holds w (pts r.g (.cells (mks mk r.m r.n ++ rest).toArray E (0, 0)) :: F) := by
  obtain ⟨rest, h⟩ := Holds.elim h
  obtain ⟨⟨h1, h2⟩, h3⟩ := Holds.elimP h
  exact ⟨rest, h1, h2, h3⟩
theorem row_shut {rest : List Value} (h1 : r.n + rest.length = r.cap) (h2 : r.cap ≤ maxLen) (h : Holds w (pts r.g (.cells (mks mk r.m r.n ++ rest).toArray E (0, 0)) :: F)) : Holds w (rowS E mk r :: F) :=
  h.mono fun _ hx => ⟨rest, ⟨h1, h2⟩, hx⟩
theorem rows_nil (h : Holds w F) : Holds w (rowsS E mk [] :: F) := h.addEmp
theorem rows_push (h : Holds w (rowS E mk r :: rowsS E mk l :: F)) : Holds w (rowsS E mk (r :: l) :: F) := h.unsplit
theorem rows_pull (h : Holds w (rowsS E mk l :: F)) (hr : r ∈ l) : ∃ l1 l2, l = l1 ++ r :: l2 ∧ Holds w (rowS E mk r :: rowsS E mk (l1 ++ l2) :: F) := by
  obtain ⟨l1, l2, rfl⟩ := List.append_of_mem hr
  refine ⟨l1, l2, rfl, ?_⟩
  have h2 : Holds w (rowsS E mk (r :: (l1 ++ l2)) :: F) := h.mono fun x hx => by
    refine all_perm ?_ hx
    exact (List.perm_middle (a := r) (l₁ := l1) (l₂ := l2)).map _
  exact h2.split

/-- A list that is kept: its value, how long it is, its mark. -/
structure En where
  v : Value
  n : Nat
  m : Nat
def EnOk (l : List Rw) (e : En) : Prop := (e.v = .slice none 0 0 ∧ e.n = 0) ∨ ∃ r ∈ l, e.v = .slice (some ⟨r.g, 0, none⟩) e.n r.cap ∧ e.n ≤ r.n ∧ r.m = e.m
def RwLe (l l' : List Rw) : Prop := ∀ r ∈ l, ∃ r' ∈ l', r'.g = r.g ∧ r'.cap = r.cap ∧ r'.m = r.m ∧ r.n ≤ r'.n
theorem RwLe.refl (l : List Rw) : RwLe l l := fun r hr => ⟨r, hr, rfl, rfl, rfl, Nat.le_refl _⟩
theorem RwLe.trans {a b c : List Rw} (h : RwLe a b) (k : RwLe b c) : RwLe a c := fun r hr => by
  obtain ⟨r1, h1, a1, a2, a3, a4⟩ := h r hr
  obtain ⟨r2, h2, b1, b2, b3, b4⟩ := k r1 h1
  exact ⟨r2, h2, b1.trans a1, b2.trans a2, b3.trans a3, Nat.le_trans a4 b4⟩
theorem RwLe.cons (r : Rw) (l : List Rw) : RwLe l (r :: l) := fun x hx => ⟨x, List.mem_cons_of_mem _ hx, rfl, rfl, rfl, Nat.le_refl _⟩
theorem EnOk.mono {l l' : List Rw} {e : En} (h : EnOk l e) (k : RwLe l l') : EnOk l' e := by
  rcases h with h | ⟨r, hr, h1, h2, h3⟩
  · exact .inl h
  · obtain ⟨r', hr', a1, a2, a3, a4⟩ := k r hr
    exact .inr ⟨r', hr', by rw [a1, a2]; exact h1, by omega, a3.trans h3⟩
theorem EnOk.shape {e : En} (h : EnOk l e) : ∃ a c, e.v = .slice a e.n c := by
  rcases h with ⟨h, h'⟩ | ⟨r, _, h, _⟩
  · rw [h, h']; exact ⟨_, _, rfl⟩
  · exact ⟨_, _, h⟩
/-- What an entry shows: marks. -/
theorem EnOk.is {e : En} (he : EnOk l e) (h : Holds w (rowsS E mk l :: F)) : SliceIs w 1 e.v e.n (mks mk e.m e.n) := by
  refine ⟨by simp, ?_⟩
  rcases he with ⟨h1, h2⟩ | ⟨r, hr, h1, h2, h3⟩
  · exact .inl ⟨h1, h2⟩
  · obtain ⟨l1, l2, _, H⟩ := rows_pull h hr
    obtain ⟨rest, hl, hm, H⟩ := row_open H
    refine .inr ⟨_, _, h1, by omega, hm, fun j x hj => ?_⟩
    have hjn : j < e.n := by have := (List.getElem?_eq_some_iff.1 hj).1; simpa using this
    rw [mks_get hjn] at hj
    rw [add_plain', Nat.zero_add, H.cell, List.getElem?_toArray, List.getElem?_append_left (by simp; omega), mks_get (by omega), h3]
    exact hj

theorem take_set_drop {A : List Value} {n : Nat} {x : Value} (h : A[n]? = some x) : A.take n ++ [x] ++ A.drop (n + 1) = A := by
  have hn := (List.getElem?_eq_some_iff.1 h).1
  have hx : A[n] = x := (List.getElem?_eq_some_iff.1 h).2
  rw [← hx, List.append_assoc]
  show A.take n ++ (A[n] :: A.drop (n + 1)) = A
  rw [← List.drop_eq_getElem_cons hn, List.take_append_drop]

section append
variable {P : Program} {x : Value} {e : En}

/-- append of its next mark onto a list that is kept. -/
theorem run_append_en (t ty : TypeId) (i : TypeInfo) (z : Value) {bytes : Nat} (ht : P.underlying t = some (.slice E)) (hi : P.info? E = some i) (hz : i.zero = some z)
    (hsize : i.size = 1) (hby : i.bytes = bytes) (hzs : z.cells.size = 1) (h : Holds w (rowsS E mk l :: F)) (he : EnOk l e) (hx : SliceIs w 1 x 1 [mk e.m e.n]) (h1 : (mk e.m e.n).oneCell' = true)
    (hbytes : (e.n + 1) * bytes ≤ 140737488355328) (h63 : e.n + 1 ≤ maxLen) :
    ∃ v' l' w', (Builtin.append_ #[t, t] ty #[e.v, x]).run P w = .ok v' w' ∧ Holds w' (rowsS E mk l' :: F) ∧ RwLe l l' ∧ EnOk l' ⟨v', e.n + 1, e.m⟩ ∧ Str w w' := by
  subst hby
  have h63' : e.n + 1 ≤ 9223372036854775807 := by simpa [maxLen] using h63
  obtain ⟨hxl, hx⟩ := hx
  rcases hx with ⟨_, h0⟩ | ⟨ad, cap', rfl, h1', h2', h3'⟩
  · omega
  · have hnews : ∀ j u, [mk e.m e.n][j]? = some u → w.cell? (ad.add j) = some u := h3'
    have hone : ∀ u ∈ [mk e.m e.n], u.oneCell' = true := fun u hu => by rw [List.mem_singleton.1 hu]; exact h1
    rcases he with ⟨hv, hn⟩ | ⟨r, hr, hv, hn, hm⟩
    · rw [hn] at hnews hbytes h63' hone ⊢
      have hrun := run_append_nil (P := P) w t ty E i z ht hi hz ad 1 cap' [mk e.m 0] (by rw [hsize]; rfl) hnews (by omega) (by omega) (by simp only [Nat.zero_add] at hbytes; omega)
      have hge := grownCap_ge w 1 0 E
      have hcm : grownCap w 1 0 E ≤ maxLen := grownCap_le_maxLen w 1 0 E (by omega)
      have hh := Holds.alloc (w := w.drew) (F := rowsS E mk l :: F) h (.cells ([mk e.m 0].toArray ++ Builtin.zeroCells z.cells (grownCap w 1 0 E - 1)) E)
      refine ⟨_, ⟨w.heap.size, grownCap w 1 0 E, e.m, 1⟩ :: l, _, by rw [hv]; exact hrun, rows_push (row_shut (r := ⟨w.heap.size, grownCap w 1 0 E, e.m, 1⟩) (rest := (Builtin.zeroCells z.cells (grownCap w 1 0 E - 1)).toList) ?_ hcm ?_), RwLe.cons _ _, .inr ⟨_, List.mem_cons_self, rfl, Nat.le_refl _, rfl⟩, (Str.refl w).drew.alloc _⟩
      · rw [Array.length_toList, size_zeroCells, hzs]
        simp only [Nat.mul_one]
        omega
      · have e1 : (mks mk e.m 1 ++ (Builtin.zeroCells z.cells (grownCap w 1 0 E - 1)).toList).toArray = [mk e.m 0].toArray ++ Builtin.zeroCells z.cells (grownCap w 1 0 E - 1) := by
          apply Array.ext'
          simp [mks]
        show Holds _ (pts w.heap.size (.cells (mks mk e.m 1 ++ (Builtin.zeroCells z.cells (grownCap w 1 0 E - 1)).toList).toArray E (0, 0)) :: _)
        rw [e1]
        exact hh
    · obtain ⟨l1, l2, hl, H0⟩ := rows_pull h hr
      obtain ⟨rest, hlen, hcm, H⟩ := row_open H0
      by_cases hroom : e.n + 1 ≤ r.cap
      · have hfit : e.n * i.size + [mk e.m e.n].length ≤ (mks mk r.m r.n ++ rest).toArray.size := by
          rw [hsize]
          simp
          omega
        have hrun := run_append_room (P := P) w t ty E i ht hi r.g e.n r.cap (mks mk r.m r.n ++ rest).toArray H.heap ad 1 cap' [mk e.m e.n] (by rw [hsize]; rfl) hnews hone hroom hfit
        rw [hsize, Nat.mul_one] at hrun
        rw [show (mks mk r.m r.n ++ rest).toArray.toList = mks mk r.m r.n ++ rest from rfl, show [mk e.m e.n].length = 1 from rfl] at hrun
        have hset := H.change (w' := w.setRow r.g ((mks mk r.m r.n ++ rest).take e.n ++ [mk e.m e.n] ++ (mks mk r.m r.n ++ rest).drop (e.n + 1)).toArray)
          (setRow_heap w r.g _ _ E _ H.heap) (fun j hj _ => setRow_other w r.g j _ hj)
        by_cases hin : e.n < r.n
        · have hsame : (mks mk r.m r.n ++ rest).take e.n ++ [mk e.m e.n] ++ (mks mk r.m r.n ++ rest).drop (e.n + 1) = mks mk r.m r.n ++ rest := by
            refine take_set_drop ?_
            rw [List.getElem?_append_left (by simp; omega), mks_get hin, hm]
          rw [hsame] at hset hrun
          refine ⟨_, r :: (l1 ++ l2), _, by rw [hv]; exact hrun, rows_push (row_shut hlen hcm hset), ?_, .inr ⟨r, List.mem_cons_self, rfl, by simp only []; omega, hm⟩, ⟨rfl, rfl, rfl, by simp [World.setRow]⟩⟩
          intro q hq
          rw [hl] at hq
          refine ⟨q, ?_, rfl, rfl, rfl, Nat.le_refl _⟩
          rcases List.mem_append.1 hq with hq | hq
          · exact List.mem_cons_of_mem _ (List.mem_append_left _ hq)
          · rcases List.mem_cons.1 hq with rfl | hq
            · exact List.mem_cons_self
            · exact List.mem_cons_of_mem _ (List.mem_append_right _ hq)
        · have hen : e.n = r.n := by omega
          have hnew : (mks mk r.m r.n ++ rest).take e.n ++ [mk e.m e.n] ++ (mks mk r.m r.n ++ rest).drop (e.n + 1) = mks mk r.m (r.n + 1) ++ rest.drop 1 := by
            rw [hen, List.take_left' (length_mks _ _ _), mks_succ, List.drop_append, List.drop_eq_nil_of_le (by simp), List.nil_append, length_mks, Nat.add_sub_cancel_left, hm]
          rw [hnew] at hset hrun
          refine ⟨_, ⟨r.g, r.cap, r.m, r.n + 1⟩ :: (l1 ++ l2), _, by rw [hv]; exact hrun, rows_push (row_shut (r := ⟨r.g, r.cap, r.m, r.n + 1⟩) (rest := rest.drop 1) (by simp only [List.length_drop]; omega) hcm hset), ?_, .inr ⟨_, List.mem_cons_self, rfl, by simp only []; omega, hm⟩, ⟨rfl, rfl, rfl, by simp [World.setRow]⟩⟩
          intro q hq
          rw [hl] at hq
          rcases List.mem_append.1 hq with hq | hq
          · exact ⟨q, List.mem_cons_of_mem _ (List.mem_append_left _ hq), rfl, rfl, rfl, Nat.le_refl _⟩
          · rcases List.mem_cons.1 hq with rfl | hq
            · exact ⟨_, List.mem_cons_self, rfl, rfl, rfl, by simp⟩
            · exact ⟨q, List.mem_cons_of_mem _ (List.mem_append_right _ hq), rfl, rfl, rfl, Nat.le_refl _⟩
      · have hnc : e.n = r.cap ∧ r.n = e.n := by omega
        have hrest : rest = [] := List.eq_nil_of_length_eq_zero (by omega)
        have holds : ∀ j u, (mks mk r.m e.n)[j]? = some u → w.cell? ((⟨r.g, 0, none⟩ : Addr).add j) = some u := fun j u hu => by
          rw [add_plain', Nat.zero_add, H.cell, List.getElem?_toArray, hrest, List.append_nil, hnc.2]
          exact hu
        have hrun := run_append_grow (P := P) w t ty E i z ht hi hz ⟨r.g, 0, none⟩ e.n r.cap (mks mk r.m e.n) (by rw [hsize]; simp) holds ad 1 cap' [mk e.m e.n] (by rw [hsize]; rfl) hnews (by omega) (by omega) (growslice_fits (by omega) hbytes)
        have hge := grownCap_ge w (e.n + 1) r.cap E
        have hcm' : grownCap w (e.n + 1) r.cap E ≤ maxLen := grownCap_le_maxLen w (e.n + 1) r.cap E (by omega)
        have hh := Holds.alloc (w := w.drew) (F := rowsS E mk l :: F) h (.cells ((mks mk r.m e.n).toArray ++ [mk e.m e.n].toArray ++ Builtin.zeroCells z.cells (grownCap w (e.n + 1) r.cap E - (e.n + 1))) E)
        refine ⟨_, ⟨w.heap.size, grownCap w (e.n + 1) r.cap E, e.m, e.n + 1⟩ :: l, _, by rw [hv]; exact hrun, rows_push (row_shut (r := ⟨w.heap.size, grownCap w (e.n + 1) r.cap E, e.m, e.n + 1⟩) (rest := (Builtin.zeroCells z.cells (grownCap w (e.n + 1) r.cap E - (e.n + 1))).toList) ?_ hcm' ?_), RwLe.cons _ _, .inr ⟨_, List.mem_cons_self, rfl, Nat.le_refl _, rfl⟩, (Str.refl w).drew.alloc _⟩
        · rw [Array.length_toList, size_zeroCells, hzs]
          simp only [Nat.mul_one]
          omega
        · have e1 : (mks mk e.m (e.n + 1) ++ (Builtin.zeroCells z.cells (grownCap w (e.n + 1) r.cap E - (e.n + 1))).toList).toArray = (mks mk r.m e.n).toArray ++ [mk e.m e.n].toArray ++ Builtin.zeroCells z.cells (grownCap w (e.n + 1) r.cap E - (e.n + 1)) := by
            apply Array.ext'
            rw [mks_succ, hm]
            simp
          show Holds _ (pts w.heap.size (.cells (mks mk e.m (e.n + 1) ++ (Builtin.zeroCells z.cells (grownCap w (e.n + 1) r.cap E - (e.n + 1))).toList).toArray E (0, 0)) :: _)
          rw [e1]
          exact hh

theorem wp_append_en {o : Oper} {a : Act} {K : Act → World → Prop} {Q : Exit → Act → World → Prop} (so xo : Operand) (t : TypeId)
    (ho : o.op = .call { callee := .builtin .append, args := #[so, xo], argTypes := #[t, t] }) (i : TypeInfo) (z : Value) {bytes : Nat} (ht : P.underlying t = some (.slice E)) (hi : P.info? E = some i) (hz : i.zero = some z)
    (hsize : i.size = 1) (hby : i.bytes = bytes) (hzs : z.cells.size = 1) (hs : a.eval so = e.v) (hxo : a.eval xo = x) (h : Holds w (rowsS E mk l :: F)) (he : EnOk l e) (hx : SliceIs w 1 x 1 [mk e.m e.n]) (h1 : (mk e.m e.n).oneCell' = true)
    (hbytes : (e.n + 1) * bytes ≤ 140737488355328) (h63 : e.n + 1 ≤ maxLen)
    (hK : ∀ v' l' w', Holds w' (rowsS E mk l' :: F) → RwLe l l' → EnOk l' ⟨v', e.n + 1, e.m⟩ → Str w w' → K (a.put o.dst v') w') : o.wp P a w K Q := by
  obtain ⟨v', l', w', hr, h2, h3, h4, h5⟩ := run_append_en (P := P) t o.type i z ht hi hz hsize hby hzs h he hx h1 hbytes h63
  unfold Oper.wp execOp
  simp only [ho, resolve, invoke, builtin, Sem.run_bind, Sem.run_pure, Result.andThen_ok, List.map_toArray, List.map_cons, List.map_nil, hs, hxo, hr]
  exact hK v' l' w' h2 h3 h4 h5
theorem wpList_append_en {ops : Array Oper} {rest : List Oper} {o : Oper} {a : Act} {Q : Exit → Act → World → Prop} (hgd : o.guard = none) (so xo : Operand) (t : TypeId)
    (ho : o.op = .call { callee := .builtin .append, args := #[so, xo], argTypes := #[t, t] }) (i : TypeInfo) (z : Value) {bytes : Nat} (ht : P.underlying t = some (.slice E)) (hi : P.info? E = some i) (hz : i.zero = some z)
    (hsize : i.size = 1) (hby : i.bytes = bytes) (hzs : z.cells.size = 1) (hs : a.eval so = e.v) (hxo : a.eval xo = x) (h : Holds w (rowsS E mk l :: F)) (he : EnOk l e) (hx : SliceIs w 1 x 1 [mk e.m e.n]) (h1 : (mk e.m e.n).oneCell' = true)
    (hbytes : (e.n + 1) * bytes ≤ 140737488355328) (h63 : e.n + 1 ≤ maxLen)
    (hK : ∀ v' l' w', Holds w' (rowsS E mk l' :: F) → RwLe l l' → EnOk l' ⟨v', e.n + 1, e.m⟩ → Str w w' → wpList P ops Q rest (a.put o.dst v') w') : wpList P ops Q (o :: rest) a w :=
  wpList_plain hgd fun _ hK' => wp_append_en so xo t ho i z ht hi hz hsize hby hzs hs hxo h he hx h1 hbytes h63 fun v' l' w' h2 h3 h4 h5 => hK' _ _ (hK v' l' w' h2 h3 h4 h5)
end append
end
end Go.SL
