/- The laws' Book: what it holds; Bytes. -/
import Derived.Test.YtakaolcajbhkiaaGreatBook2
namespace Go.SL
set_option linter.unusedVariables false
set_option linter.unusedSimpArgs false
open Go.RowKit Go.Fm
/-- A list of its own, marked, becomes a row. -/
theorem own_to_row {E : TypeId} {mk : Nat → Nat → Value} {v : Value} {n m : Nat} {l : List Rw} {w : World} {F : List HProp} (h : Holds w (own E 1 v n (mks mk m n) :: rowsS E mk l :: F)) :
    ∃ l', RwLe l l' ∧ EnOk l' ⟨v, n, m⟩ ∧ Holds w (rowsS E mk l' :: F) := by
  obtain ⟨rest, h⟩ := h.own_elim
  obtain ⟨hl, h⟩ := h.ownR_cases
  rcases h with ⟨hv, hn, _, _, h⟩ | ⟨g, cap, hv, h1, h2, h3, h⟩
  · exact ⟨l, RwLe.refl l, .inl ⟨hv, hn⟩, h⟩
  · refine ⟨⟨g, cap, m, n⟩ :: l, RwLe.cons _ _, .inr ⟨_, List.mem_cons_self, hv, Nat.le_refl _, rfl⟩, rows_push (row_shut (r := ⟨g, cap, m, n⟩) (rest := rest) ?_ h2 h)⟩
    simpa using h3
theorem set_mid {A B : List Value} {x y : Value} : (A ++ x :: B).set A.length y = A ++ y :: B := by simp
def mkW (m _k : Nat) : Value := .int .u64 ((m * 1048576 % 18446744073709551616 : Nat) : Int)
def mkU (m _k : Nat) : Value := .int .u32 ((m * 256 % 4294967296 : Nat) : Int)
def mkT (m _k : Nat) : Value := .int .i64 (-7 - (m * 1048576 : Nat))
/-- A kind's numbers. -/
structure KdOk (c : Nat) (es : List En) (at_ k T : Nat) : Prop where
  cnt : es.length + (c - 1) * (es.length - at_) ≤ c * k
  at_le : at_ ≤ es.length
  len : ∀ e ∈ es, e.n ≤ 6000000 + 96 * es.length
  mark : ∀ e ∈ es, e.m ≤ T
theorem KdOk.up {c : Nat} {es : List En} {a k T T' : Nat} (h : KdOk c es a k T) (hT : T ≤ T') : KdOk c es a k T' := ⟨h.cnt, h.at_le, h.len, fun e he => Nat.le_trans (h.mark e he) hT⟩
/-- One list more. -/
theorem KdOk.snoc {c : Nat} {es : List En} {a k T : Nat} {e : En} (h : KdOk c es a k T) (hc : 0 < c) (hn : e.n ≤ 6000000) (hm : e.m ≤ T) : KdOk c (es ++ [e]) a (k + 1) T := by
  have h1 := h.cnt
  have h2 := h.at_le
  refine ⟨?_, by simp; omega, ?_, ?_⟩
  · rw [List.length_append, List.length_singleton, show es.length + 1 - a = (es.length - a) + 1 by omega, Nat.mul_add, Nat.mul_add]
    omega
  · intro u hu
    rw [List.length_append, List.length_singleton]
    rcases List.mem_append.1 hu with hu | hu
    · have := h.len u hu; omega
    · rw [List.mem_singleton.1 hu]; omega
  · intro u hu
    rcases List.mem_append.1 hu with hu | hu
    · exact h.mark u hu
    · rw [List.mem_singleton.1 hu]; exact hm
end Go.SL
namespace Go.Proofs.YtakaolcajbhkiaaGreat
set_option linter.unusedVariables false
set_option linter.unusedSimpArgs false
open Go.RowKit Go.SL Go.Fm

structure BkL where
  b : List En
  w : List En
  s : List En
  t : List En
structure BookOk (T : Nat) (x : Bk) (y : BkL) (k1 k2 : Nat) : Prop where
  turn : x.turn ≤ T
  used : x.used ≤ 16777216
  cnt : 1200 * k1 + 8000 * k2 ≤ x.used
  kb : KdOk 10 y.b x.ba k1 T
  kw : KdOk 6 y.w x.wa k2 T
  ks : KdOk 6 y.s x.sa k2 T
  kt : KdOk 6 y.t x.ta k2 T
abbrev kB (x : Bk) (y : BkL) : HProp := kindS 57 3 5 mkB x.bv x.bo y.b
abbrev kW (x : Bk) (y : BkL) : HProp := kindS 120 3 81 mkW x.wv x.wo y.w
abbrev kS (x : Bk) (y : BkL) : HProp := kindS 121 3 122 mkU x.sv x.so y.s
abbrev kT (x : Bk) (y : BkL) : HProp := kindS 54 3 2 mkT x.tv x.to_ y.t
/-- The Book, of at most T turns. -/
def bookS (b T : Nat) : HProp := fun h => ∃ z : Bk × BkL × Nat × Nat, BookOk T z.1 z.2.1 z.2.2.1 z.2.2.2 ∧ sep (bkP b z.1) (sep (kB z.1 z.2.1) (sep (kW z.1 z.2.1) (sep (kS z.1 z.2.1) (kT z.1 z.2.1)))) h
theorem bookS_open {b T : Nat} {w : World} {F : List HProp} (h : Holds w (bookS b T :: F)) : ∃ x y k1 k2, BookOk T x y k1 k2 ∧ Holds w (bkP b x :: kB x y :: kW x y :: kS x y :: kT x y :: F) := by
  obtain ⟨⟨x, y, k1, k2⟩, h⟩ := Holds.elim h
  obtain ⟨h1, h⟩ := Holds.elimP h
  refine ⟨x, y, k1, k2, h1, ?_⟩
  have h2 := h.split.swap.split
  have h3 : Holds w (sep (kW x y) (sep (kS x y) (kT x y)) :: kB x y :: bkP b x :: F) := h2.swap.perm (by exact (List.Perm.refl _))
  have h4 := h3.split
  have h5 : Holds w (sep (kS x y) (kT x y) :: kW x y :: kB x y :: bkP b x :: F) := h4.swap
  have h6 := h5.split
  exact Holds.ord (l := [_, _, _, _, _]) h6 [4, 3, 2, 0, 1] rfl
theorem bookS_shut {b T : Nat} {w : World} {F : List HProp} {x : Bk} {y : BkL} {k1 k2 : Nat} (ok : BookOk T x y k1 k2) (h : Holds w (bkP b x :: kB x y :: kW x y :: kS x y :: kT x y :: F)) : Holds w (bookS b T :: F) := by
  have h1 : Holds w (kS x y :: kT x y :: bkP b x :: kB x y :: kW x y :: F) := Holds.ord (l := [_, _, _, _, _]) h [3, 4, 0, 1, 2] rfl
  have h2 : Holds w (kW x y :: sep (kS x y) (kT x y) :: bkP b x :: kB x y :: F) := Holds.ord (l := [_, _, _, _]) h1.unsplit [3, 0, 1, 2] rfl
  have h3 : Holds w (kB x y :: sep (kW x y) (sep (kS x y) (kT x y)) :: bkP b x :: F) := Holds.ord (l := [_, _, _]) h2.unsplit [2, 0, 1] rfl
  have h4 : Holds w (bkP b x :: sep (kB x y) (sep (kW x y) (sep (kS x y) (kT x y))) :: F) := h3.unsplit.swap
  exact h4.unsplit.mono fun _ hx => ⟨(x, y, k1, k2), ok, hx⟩

theorem info_bytes : (Tryz.prog.info? 57).map (fun i => (i.zero, i.size, i.bytes)) = some (some (.slice none 0 0), 1, 24) := by kernel_rfl
theorem info_int : (Tryz.prog.info? 3).map (fun i => (i.zero, i.size, i.bytes)) = some (some (.int .i64 0), 1, 8) := by kernel_rfl

set_option maxRecDepth 100000 in
set_option maxHeartbeats 4000000 in
theorem bkBytes_c (b T : Nat) (v : Value) (n : Nat) (xs : List Value) (w : World) (F : List HProp) (H : Holds w (bookS b T :: own 5 1 v n xs :: F)) (hT : T ≤ 900000000000) (hn : n ≤ 1000000000000) :
    Calls Tryz.prog 21 #[.pointer (some ⟨b, 0, none⟩), v] w (Ret w (.tuple #[]) (bookS b (T + 1) :: F)) := by
  obtain ⟨⟨bv_, bo_, ba_, wv_, wo_, wa_, sv_, so_, sa_, tv_, to__, ta_, turn_, done_, used_⟩, y, k1, k2, ok, H1⟩ := bookS_open H
  obtain ⟨x, hx⟩ : ∃ x : Bk, x = ⟨bv_, bo_, ba_, wv_, wo_, wa_, sv_, so_, sa_, tv_, to__, ta_, turn_, done_, used_⟩ := ⟨_, rfl⟩
  rw [← hx] at ok H1
  replace hx := Lib.hid hx
  have H2 : Holds w (bkP b x :: own 5 1 v n xs :: kB x y :: kW x y :: kS x y :: kT x y :: F) := Holds.ord (l := [_, _, _, _, _, _]) H1 [0, 5, 1, 2, 3, 4] rfl
  obtain ⟨av, cv, rfl⟩ := own_shape H2.swap
  have hxl : xs.length = n := by have := H2.swap.own_is.1; omega
  have c69 := H2.cell 69
  have z69 := H2.free 69
  simp [bkCells] at c69
  have ht := ok.turn
  have hst := H2.store 69 (.int .i64 (x.turn + 1 : Nat))
  go_enter Tryz.func21, Tryz.ntmps21
  go_wp2
  go_loopw [5] (fun s5 wl => ∃ j : Nat, j ≤ n ∧ s5 = .int .i64 j ∧ Holds wl (own 5 1 (.slice av n cv) n (mks mkB (x.turn + 1) j ++ xs.drop j) :: bkP b { x with turn := x.turn + 1 } :: kB x y :: kW x y :: kS x y :: kT x y :: F) ∧ Str w wl) (fun s5 _ => (n - intOf s5).toNat)
  case atStart => exact ⟨0, by omega, rfl, by have h := hst.swap; exact h, (Str.refl w).setCell _ _⟩
  case round =>
    clear hst H H1 H2 c69 z69
    obtain ⟨j, hj, rfl, Hr, Sr⟩ := hrel
    by_cases hjn : j < n
    · obtain ⟨g, cap, rest, hv, h1, h2, h3, h4, H4⟩ := Hr.own_block (by omega)
      simp only [Value.slice.injEq] at hv
      obtain ⟨rfl, _, rfl⟩ := hv
      unfold maxLen at h2
      have hlt : j < (mks mkB (x.turn + 1) j ++ xs.drop j ++ rest).toArray.size := by simp; omega
      have c0 := H4.cell j
      rw [Array.getElem?_eq_getElem hlt] at c0
      have z0 := H4.free j
      have e1 : ((mks mkB (x.turn + 1) j ++ xs.drop j ++ rest).toArray.setIfInBounds j (mkB (x.turn + 1) j)).toList = (mks mkB (x.turn + 1) (j + 1) ++ xs.drop (j + 1)) ++ rest := by
        have := set_mid (A := mks mkB (x.turn + 1) j) (B := xs.drop (j + 1) ++ rest) (x := xs[j]'(by omega)) (y := mkB (x.turn + 1) j)
        rw [length_mks] at this
        rw [List.drop_eq_getElem_cons (show j < xs.length by omega), mks_succ, Array.toList_setIfInBounds]
        show ((mks mkB (x.turn + 1) j ++ xs[j]'(by omega) :: xs.drop (j + 1)) ++ rest).set j _ = _
        rw [List.append_assoc, List.cons_append, this]
        simp
      have hs := (H4.store j (mkB (x.turn + 1) j)).own_of_pts (n := n) (s := 1) (xs := mks mkB (x.turn + 1) (j + 1) ++ xs.drop (j + 1)) (rest := rest) h1 (by unfold maxLen; omega) (by simp; omega) e1 (by simp at h4 ⊢; omega)
      replace e1 := Lib.hid e1
      replace hs := Lib.hid hs
      have hat := at_c (x.turn + 1) j (by omega)
      clear h3 h4
      go_wp2_with (go_at_call 37; refine (hat _).mono ?_; rintro e w' ⟨rfl, hw'⟩; obtain rfl := hw'.symm)
      go_roundw
      case rel => exact ⟨j + 1, by omega, by congr 1, hs.out, Sr.setCell _ _⟩
      case measure => (simp [intOf] <;> omega)
    · obtain rfl : j = n := by omega
      have hdrop : xs.drop j = [] := List.drop_eq_nil_of_le (by omega)
      rw [hdrop, List.append_nil] at Hr
      replace hdrop := Lib.hid hdrop
      have hti := tight_c b { x with turn := x.turn + 1 } (1200 + 3 * j) wr _ Hr.swap ok.used (by omega)
      simp only [Int.natCast_add, Int.natCast_mul, Int.cast_ofNat_Int] at hti
      by_cases hfull : 16777216 < x.used + (1200 + 3 * j)
      · simp only [hfull, if_true, decide_true] at hti
        replace hfull := Lib.hid hfull
        go_wp2_with fail
        refine hti.mono ?_
        rintro e w2 ⟨rfl, H5, S5⟩
        go_wp2_with fail
        refine bodyPost_ret (results_none rfl _ _ _) rfl ⟨rfl, ?_, Sr.trans S5⟩
        have H6 : Holds w2 (bkP b { x with turn := x.turn + 1 } :: kB x y :: kW x y :: kS x y :: kT x y :: F) := H5.swap.tail
        exact bookS_shut (x := { x with turn := x.turn + 1 }) (y := y) (k1 := k1) (k2 := k2) ⟨by show x.turn + 1 ≤ T + 1; omega, ok.used, ok.cnt, ok.kb.up (by omega), ok.kw.up (by omega), ok.ks.up (by omega), ok.kt.up (by omega)⟩ H6
      · simp only [hfull, if_false, decide_false] at hti
        have hfull' : x.used + (1200 + 3 * j) ≤ 16777216 := by omega
        replace hfull := Lib.hid hfull
        go_wp2_with fail
        refine hti.mono ?_
        rintro e w2 ⟨rfl, H5, S5⟩
        obtain ⟨iB, hBj, hBy0, hBy1, hBy2⟩ := info_parts info_bytes
        obtain ⟨iI, hIj, hIy0, hIy1, hIy2⟩ := info_parts info_int
        have H6 : Holds w2 (kB x y :: bkP b { x with turn := x.turn + 1, used := x.used + (1200 + 3 * j) } :: own 5 1 (.slice av j cv) j (mks mkB (x.turn + 1) j) :: kW x y :: kS x y :: kT x y :: F) := Holds.ord (l := [_, _, _]) H5 [2, 0, 1] rfl
        obtain ⟨l, hok, H7⟩ := kindS_open H6
        obtain ⟨aL, cL, hL⟩ := own_shape H7
        obtain ⟨aO, cO, hO⟩ := own_shape H7.swap
        rw [hL, hO] at H7
        have c0 := H7.pull3.cell 0
        have z0 := H7.pull3.free 0
        simp [bkCells, hL] at c0
        have hcnt := ok.kb.cnt
        have hk := ok.cnt
        have hel : y.b.length ≤ 10 * k1 := by omega
        have hk1 : k1 ≤ 14000 := by have := ok.used; omega
        replace hcnt := Lib.hid hcnt
        replace hk := Lib.hid hk
        have hjb : j ≤ 6000000 := by omega
        go_upto_region 8 with (at_builtin; refine wpList_append_sl rfl _ _ _ rfl iB (.slice none 0 0) Tryz.underlying23 hBj hBy0 hBy1 hBy2 rfl (by decide) rfl (x := .slice (some ⟨w2.heap.size, 0, none⟩) 1 1) rfl (H7.alloc' _) (m := 1) (news := [.slice av j cv]) (slice_new w2 _ _ _ 1 1 rfl (by decide)) (by simp [Value.oneCell']) (by omega) (by unfold maxLen; omega) ?_; intro v8 w8 H8 S8; obtain ⟨a8, k8, rfl⟩ := own_shape H8; have d0 := H8.pull3.cell 0; have e0 := H8.pull3.free 0; simp [bkCells] at d0)
        have H9 : Holds (w8.setCell ⟨b, 0, none⟩ (.slice a8 (y.b.length + 1) k8)) (bkP b { x with turn := x.turn + 1, used := x.used + (1200 + 3 * j), bv := .slice a8 (y.b.length + 1) k8, bo := .slice aO y.b.length cO } :: own 57 1 (.slice a8 (y.b.length + 1) k8) (y.b.length + 1) (y.b.map (fun e => e.v) ++ [.slice av j cv]) :: own 3 1 (.slice aO y.b.length cO) y.b.length (y.b.map fun e => .int .i64 (e.m : Nat)) :: rowsS 5 mkB l :: own 5 1 (.slice av j cv) j (mks mkB (x.turn + 1) j) :: kW x y :: kS x y :: kT x y :: F) := H8.pull3.store 0 _
        have S9 := (S8.setCell ⟨b, 0, none⟩ (.slice a8 (y.b.length + 1) k8))
        have c1 := H9.cell 1
        have z1 := H9.free 1
        simp [bkCells, hO] at c1
        clear d0 e0 c0 z0
        generalize w8.setCell ⟨b, 0, none⟩ (.slice a8 (y.b.length + 1) k8) = w9 at H9 S9 c1 z1 ⊢
        have H10 : Holds w9 (own 3 1 (.slice aO y.b.length cO) y.b.length (y.b.map fun e => .int .i64 (e.m : Nat)) :: _) := Holds.ord (l := [_, _, _]) H9 [2, 0, 1] rfl
        simp only [List.map, List.getD_cons_zero, List.getD_cons_succ, List.cons_append, List.nil_append] at H10
        go_wp2_with (at_builtin; refine wpList_append_sl rfl _ _ _ rfl iI (.int .i64 0) Tryz.underlying24 hIj hIy0 hIy1 hIy2 rfl (by decide) rfl (x := .slice (some ⟨w9.heap.size, 0, none⟩) 1 1) rfl (H10.alloc' _) (m := 1) (news := [.int .i64 ((x.turn : Int) + 1)]) (slice_new w9 _ _ _ 1 1 rfl (by decide)) (by simp [Value.oneCell']) (by omega) (by unfold maxLen; omega) ?_; intro v11 w11 H11 S11; obtain ⟨a11, k11, rfl⟩ := own_shape H11; have d1 := H11.swap.cell 1; have e1 := H11.swap.free 1; simp [bkCells] at d1)
        go_end0
        refine ⟨rfl, ?_, ?_⟩
        · have H12 : Holds (w11.setCell ⟨b, 1, none⟩ (.slice a11 (y.b.length + 1) k11)) (bkP b { x with turn := x.turn + 1, used := x.used + (1200 + 3 * j), bv := .slice a8 (y.b.length + 1) k8, bo := .slice a11 (y.b.length + 1) k11 } :: own 3 1 (.slice a11 (y.b.length + 1) k11) (y.b.length + 1) (y.b.map (fun e => .int .i64 (e.m : Nat)) ++ [.int .i64 ((x.turn : Int) + 1)]) :: own 57 1 (.slice a8 (y.b.length + 1) k8) (y.b.length + 1) (y.b.map (fun e => e.v) ++ [.slice av j cv]) :: rowsS 5 mkB l :: own 5 1 (.slice av j cv) j (mks mkB (x.turn + 1) j) :: kW x y :: kS x y :: kT x y :: F) := H11.swap.store 1 _
          have H13 := Holds.ord (l := [_, _, _, _, _]) H12 [4, 3, 0, 1, 2] rfl
          simp only [List.map, List.getD_cons_zero, List.getD_cons_succ, List.cons_append, List.nil_append] at H13
          obtain ⟨l', hle, hen, H14⟩ := own_to_row H13
          have H15 := Holds.ord (l := [_, _, _, _]) H14 [3, 2, 0, 1] rfl
          simp only [List.map, List.getD_cons_zero, List.getD_cons_succ, List.cons_append, List.nil_append] at H15
          have H16 := kindS_shut (es := y.b ++ [⟨.slice av j cv, j, x.turn + 1⟩]) (l := l') (fun e he => by
            rcases List.mem_append.1 he with he | he
            · exact (hok e he).mono hle
            · rw [List.mem_singleton.1 he]; exact hen) (by rw [List.map_append, List.map_append, List.length_append]; exact H15)
          have hkk := hk.out
          have hcc := ok.cnt
          exact bookS_shut (x := { x with turn := x.turn + 1, used := x.used + (1200 + 3 * j), bv := .slice a8 (y.b.length + 1) k8, bo := .slice a11 (y.b.length + 1) k11 }) (y := { y with b := y.b ++ [⟨.slice av j cv, j, x.turn + 1⟩] }) (k1 := k1 + 1) (k2 := k2)
            ⟨by show x.turn + 1 ≤ T + 1; omega, by show x.used + (1200 + 3 * j) ≤ 16777216; omega, by show _ ≤ x.used + (1200 + 3 * j); omega, (ok.kb.up (by omega)).snoc (by decide) hjb (by show x.turn + 1 ≤ T + 1; omega), ok.kw.up (by omega), ok.ks.up (by omega), ok.kt.up (by omega)⟩ H16.swap
        · exact (((Sr.trans S5).alloc _).trans S9 |>.alloc _ |>.trans S11).setCell _ _
end Go.Proofs.YtakaolcajbhkiaaGreat
