/- The laws' Book: Times. -/
import Derived.Test.YtakaolcajbhkiaaGreatBook5
namespace Go.Proofs.YtakaolcajbhkiaaGreat
set_option linter.unusedVariables false
set_option linter.unusedSimpArgs false
open Go.RowKit Go.SL Go.Fm
theorem _root_.Go.SL.KdOk.upK {c : Nat} {es : List En} {a k k' T : Nat} (h : KdOk c es a k T) (hk : k ≤ k') : KdOk c es a k' T := ⟨Nat.le_trans h.cnt (Nat.mul_le_mul_left c hk), h.at_le, h.len, h.mark⟩
set_option maxRecDepth 100000 in
set_option maxHeartbeats 4000000 in
theorem bkTimes_c (b T : Nat) (v : Value) (n : Nat) (xs : List Value) (w : World) (F : List HProp) (H : Holds w (bookS b T :: own 2 1 v n xs :: F)) (hT : T ≤ 900000000000) (hn : n ≤ 100000000) :
    Calls Tryz.prog 26 #[.pointer (some ⟨b, 0, none⟩), v] w (Ret w (.tuple #[]) (bookS b (T + 1) :: F)) := by
  obtain ⟨⟨bv_, bo_, ba_, wv_, wo_, wa_, sv_, so_, sa_, tv_, to__, ta_, turn_, done_, used_⟩, y, k1, k2, ok, H1⟩ := bookS_open H
  obtain ⟨x, hx⟩ : ∃ x : Bk, x = ⟨bv_, bo_, ba_, wv_, wo_, wa_, sv_, so_, sa_, tv_, to__, ta_, turn_, done_, used_⟩ := ⟨_, rfl⟩
  rw [← hx] at ok H1
  replace hx := Lib.hid hx
  have H2 : Holds w (bkP b x :: own 2 1 v n xs :: kB x y :: kW x y :: kS x y :: kT x y :: F) := Holds.ord (l := [_, _, _, _, _, _]) H1 [0, 5, 1, 2, 3, 4] rfl
  obtain ⟨av, cv, rfl⟩ := own_shape H2.swap
  have hxl : xs.length = n := by have := H2.swap.own_is.1; omega
  have c69 := H2.cell 69
  have z69 := H2.free 69
  simp [bkCells] at c69
  have ht := ok.turn
  have hst := H2.store 69 (.int .i64 (x.turn + 1 : Nat))
  go_enter Tryz.func26, Tryz.ntmps26
  go_wp2_with (go_at_call 48; refine (mkT_c (x.turn + 1) (by omega) _).mono ?_; rintro e w' ⟨rfl, hw'⟩; obtain rfl := hw'.symm)
  go_loopw [6] (fun s5 wl => ∃ j : Nat, j ≤ n ∧ s5 = .int .i64 j ∧ Holds wl (own 2 1 (.slice av n cv) n (mks mkT (x.turn + 1) j ++ xs.drop j) :: bkP b { x with turn := x.turn + 1 } :: kB x y :: kW x y :: kS x y :: kT x y :: F) ∧ Str w wl) (fun s5 _ => (n - intOf s5).toNat)
  case atStart => exact ⟨0, by omega, rfl, by have h := hst.swap; exact h, (Str.refl w).setCell _ _⟩
  case round =>
    clear hst H H1 H2 c69 z69
    obtain ⟨j, hj, rfl, Hr, Sr⟩ := hrel
    by_cases hjn : j < n
    · obtain ⟨g, cap, rest, hv, h1, h2, h3, h4, H4⟩ := Hr.own_block (by omega)
      simp only [Value.slice.injEq] at hv
      obtain ⟨rfl, _, rfl⟩ := hv
      unfold maxLen at h2
      have hlt : j < (mks mkT (x.turn + 1) j ++ xs.drop j ++ rest).toArray.size := by simp; omega
      have c0 := H4.cell j
      rw [Array.getElem?_eq_getElem hlt] at c0
      have z0 := H4.free j
      have e1 : ((mks mkT (x.turn + 1) j ++ xs.drop j ++ rest).toArray.setIfInBounds j (mkT (x.turn + 1) j)).toList = (mks mkT (x.turn + 1) (j + 1) ++ xs.drop (j + 1)) ++ rest := by
        have := set_mid (A := mks mkT (x.turn + 1) j) (B := xs.drop (j + 1) ++ rest) (x := xs[j]'(by omega)) (y := mkT (x.turn + 1) j)
        rw [length_mks] at this
        rw [List.drop_eq_getElem_cons (show j < xs.length by omega), mks_succ, Array.toList_setIfInBounds]
        show ((mks mkT (x.turn + 1) j ++ xs[j]'(by omega) :: xs.drop (j + 1)) ++ rest).set j _ = _
        rw [List.append_assoc, List.cons_append, this]
        simp
      have hs := (H4.store j (mkT (x.turn + 1) j)).own_of_pts (n := n) (s := 1) (xs := mks mkT (x.turn + 1) (j + 1) ++ xs.drop (j + 1)) (rest := rest) h1 (by unfold maxLen; omega) (by simp; omega) e1 (by simp at h4 ⊢; omega)
      replace e1 := Lib.hid e1
      replace hs := Lib.hid hs
      clear h3 h4
      go_wp2_with fail
      go_roundw
      case rel => exact ⟨j + 1, by omega, by congr 1, hs.out, Sr.setCell _ _⟩
      case measure => (simp [intOf] <;> omega)
    · obtain rfl : j = n := by omega
      have hdrop : xs.drop j = [] := List.drop_eq_nil_of_le (by omega)
      rw [hdrop, List.append_nil] at Hr
      replace hdrop := Lib.hid hdrop
      have hti := tight_c b { x with turn := x.turn + 1 } (8000 + 300 * j) wr _ Hr.swap ok.used (by omega)
      simp only [Int.natCast_add, Int.natCast_mul, Int.cast_ofNat_Int] at hti
      by_cases hfull : 16777216 < x.used + (8000 + 300 * j)
      · simp only [hfull, if_true, decide_true] at hti
        replace hfull := Lib.hid hfull
        go_wp2_with fail
        refine hti.mono ?_
        rintro e w2 ⟨rfl, H5, S5⟩
        go_wp2_with fail
        refine bodyPost_ret (results_none rfl _ _ _) rfl ⟨rfl, ?_, Sr.trans S5⟩
        have H6 : Holds w2 (bkP b { x with turn := x.turn + 1 } :: kB x y :: kW x y :: kS x y :: kT x y :: F) := H5.swap.tail
        exact bookS_shut (x := { x with turn := x.turn + 1 }) (y := y) (k1 := k1) (k2 := k2) ⟨by show x.turn + 1 ≤ T + 1; omega, ok.used, ok.cnt, ok.kb.up (by omega), ok.kw.up (by omega), ok.ks.up (by omega), ok.kt.up (by omega)⟩ H6
      · simp only [hfull, if_false, decide_false] at hti
        have hfull' : x.used + (8000 + 300 * j) ≤ 16777216 := by omega
        replace hfull := Lib.hid hfull
        go_wp2_with fail
        refine hti.mono ?_
        rintro e w2 ⟨rfl, H5, S5⟩
        obtain ⟨iB, hBj, hBy0, hBy1, hBy2⟩ := info_parts info_elT
        obtain ⟨iI, hIj, hIy0, hIy1, hIy2⟩ := info_parts info_int
        have H6 : Holds w2 (kT x y :: bkP b { x with turn := x.turn + 1, used := x.used + (8000 + 300 * j) } :: own 2 1 (.slice av j cv) j (mks mkT (x.turn + 1) j) :: kB x y :: kW x y :: kS x y :: F) := Holds.ord (l := [_, _, _, _, _, _]) H5 [5, 0, 1, 2, 3, 4] rfl
        obtain ⟨l, hok, H7⟩ := kindS_open H6
        obtain ⟨aL, cL, hL⟩ := own_shape H7
        obtain ⟨aO, cO, hO⟩ := own_shape H7.swap
        rw [hL, hO] at H7
        have c0 := H7.pull3.cell 18
        have z0 := H7.pull3.free 18
        simp [bkCells, hL] at c0
        have hcnt := ok.kt.cnt
        have hk := ok.cnt
        have hel : y.t.length ≤ 6 * k2 := by omega
        have hk1 : k2 ≤ 2100 := by have := ok.used; omega
        replace hcnt := Lib.hid hcnt
        replace hk := Lib.hid hk
        have hjb : j ≤ 6000000 := by omega
        go_upto_region 9 with (at_builtin; refine wpList_append_sl rfl _ _ _ rfl iB (.slice none 0 0) Tryz.underlying22 hBj hBy0 hBy1 hBy2 rfl (by decide) rfl (x := .slice (some ⟨w2.heap.size, 0, none⟩) 1 1) rfl (H7.alloc' _) (m := 1) (news := [.slice av j cv]) (slice_new w2 _ _ _ 1 1 rfl (by decide)) (by simp [Value.oneCell']) (by omega) (by unfold maxLen; omega) ?_; intro v8 w8 H8 S8; obtain ⟨a8, k8, rfl⟩ := own_shape H8; have d0 := H8.pull3.cell 18; have e0 := H8.pull3.free 18; simp [bkCells] at d0)
        have H9 : Holds (w8.setCell ⟨b, 18, none⟩ (.slice a8 (y.t.length + 1) k8)) (bkP b { x with turn := x.turn + 1, used := x.used + (8000 + 300 * j), tv := .slice a8 (y.t.length + 1) k8, to_ := .slice aO y.t.length cO } :: own 54 1 (.slice a8 (y.t.length + 1) k8) (y.t.length + 1) (y.t.map (fun e => e.v) ++ [.slice av j cv]) :: own 3 1 (.slice aO y.t.length cO) y.t.length (y.t.map fun e => .int .i64 (e.m : Nat)) :: rowsS 2 mkT l :: own 2 1 (.slice av j cv) j (mks mkT (x.turn + 1) j) :: kB x y :: kW x y :: kS x y :: F) := H8.pull3.store 18 _
        have S9 := (S8.setCell ⟨b, 18, none⟩ (.slice a8 (y.t.length + 1) k8))
        have c1 := H9.cell 19
        have z1 := H9.free 19
        simp [bkCells, hO] at c1
        clear d0 e0 c0 z0
        generalize w8.setCell ⟨b, 18, none⟩ (.slice a8 (y.t.length + 1) k8) = w9 at H9 S9 c1 z1 ⊢
        have H10 : Holds w9 (own 3 1 (.slice aO y.t.length cO) y.t.length (y.t.map fun e => .int .i64 (e.m : Nat)) :: _) := Holds.ord (l := [_, _, _]) H9 [2, 0, 1] rfl
        simp only [List.map, List.getD_cons_zero, List.getD_cons_succ, List.cons_append, List.nil_append] at H10
        go_wp2_with (at_builtin; refine wpList_append_sl rfl _ _ _ rfl iI (.int .i64 0) Tryz.underlying24 hIj hIy0 hIy1 hIy2 rfl (by decide) rfl (x := .slice (some ⟨w9.heap.size, 0, none⟩) 1 1) rfl (H10.alloc' _) (m := 1) (news := [.int .i64 ((x.turn : Int) + 1)]) (slice_new w9 _ _ _ 1 1 rfl (by decide)) (by simp [Value.oneCell']) (by omega) (by unfold maxLen; omega) ?_; intro v11 w11 H11 S11; obtain ⟨a11, k11, rfl⟩ := own_shape H11; have d1 := H11.swap.cell 19; have e1 := H11.swap.free 19; simp [bkCells] at d1)
        go_end0
        refine ⟨rfl, ?_, ?_⟩
        · have H12 : Holds (w11.setCell ⟨b, 19, none⟩ (.slice a11 (y.t.length + 1) k11)) (bkP b { x with turn := x.turn + 1, used := x.used + (8000 + 300 * j), tv := .slice a8 (y.t.length + 1) k8, to_ := .slice a11 (y.t.length + 1) k11 } :: own 3 1 (.slice a11 (y.t.length + 1) k11) (y.t.length + 1) (y.t.map (fun e => .int .i64 (e.m : Nat)) ++ [.int .i64 ((x.turn : Int) + 1)]) :: own 54 1 (.slice a8 (y.t.length + 1) k8) (y.t.length + 1) (y.t.map (fun e => e.v) ++ [.slice av j cv]) :: rowsS 2 mkT l :: own 2 1 (.slice av j cv) j (mks mkT (x.turn + 1) j) :: kB x y :: kW x y :: kS x y :: F) := H11.swap.store 19 _
          have H13 := Holds.ord (l := [_, _, _, _, _]) H12 [4, 3, 0, 1, 2] rfl
          simp only [List.map, List.getD_cons_zero, List.getD_cons_succ, List.cons_append, List.nil_append] at H13
          obtain ⟨l', hle, hen, H14⟩ := own_to_row H13
          have H15 := Holds.ord (l := [_, _, _, _]) H14 [3, 2, 0, 1] rfl
          simp only [List.map, List.getD_cons_zero, List.getD_cons_succ, List.cons_append, List.nil_append] at H15
          have H16 := kindS_shut (es := y.t ++ [⟨.slice av j cv, j, x.turn + 1⟩]) (l := l') (fun e he => by
            rcases List.mem_append.1 he with he | he
            · exact (hok e he).mono hle
            · rw [List.mem_singleton.1 he]; exact hen) (by rw [List.map_append, List.map_append, List.length_append]; exact H15)
          have hkk := hk.out
          have hcc := ok.cnt
          exact bookS_shut (x := { x with turn := x.turn + 1, used := x.used + (8000 + 300 * j), tv := .slice a8 (y.t.length + 1) k8, to_ := .slice a11 (y.t.length + 1) k11 }) (y := { y with t := y.t ++ [⟨.slice av j cv, j, x.turn + 1⟩] }) (k1 := k1) (k2 := k2 + 1)
            ⟨by show x.turn + 1 ≤ T + 1; omega, by show x.used + (8000 + 300 * j) ≤ 16777216; omega, by show _ ≤ x.used + (8000 + 300 * j); omega, ok.kb.up (by omega), (ok.kw.up (by omega)).upK (Nat.le_succ _), (ok.ks.up (by omega)).upK (Nat.le_succ _), (ok.kt.up (by omega)).snoc (by decide) hjb (by show x.turn + 1 ≤ T + 1; omega)⟩ (Holds.ord (l := [_, _, _, _, _]) H16 [1, 2, 3, 4, 0] rfl)
        · exact (((Sr.trans S5).alloc _).trans S9 |>.alloc _ |>.trans S11).setCell _ _
end Go.Proofs.YtakaolcajbhkiaaGreat
