/- The law BitsWrites, walked. -/
import Derived.Test.YtngnfdlkkedaaaaLPair
import Derived.Deep.RegionWith
import Derived.Deep.RegionHeld3
import Derived.BigQuiet
import Derived.StillTailTactics
import Derived.WalkSpells
namespace Go.Proofs.Ytngnfdlkkedaaaa
open Go.RowKit Go.SL Go.Fm
set_option linter.unusedVariables false
set_option linter.unusedSimpArgs false
theorem alloc_size (w : World) (o : Obj) : (w.alloc o).heap.size = w.heap.size + 1 := by simp
theorem wp_buildBook {o : Oper} {a : Act} {w : World} {K : Act → World → Prop} {Q : Exit → Act → World → Prop} (ho : o.op = .build 79 #[]) (h : K (a.put o.dst (.agg (bkCells bk0))) w) : o.wp Try.prog a w K Q := by
  have e : Program.built Try.prog 79 [] = some (bkCells bk0) := by kernel_rfl
  unfold Oper.wp execOp
  simp only [ho, Sem.run_bind, run_build w 79 _ _ e, Result.andThen_ok, Array.map_empty]
  exact h
/-- What is left of a quiet head, behind a shape that does not unfold. -/
structure StW (P : Program) (ops : Array Oper) (w : World) (Q : Act → Prop) (l : List Oper) (a : Act) : Prop where
  out : wpStill P ops w Q l a
theorem stW_nil {P : Program} {ops : Array Oper} {w : World} {Q : Act → Prop} {a : Act} (h : Q a) : StW P ops w Q [] a := ⟨h⟩
theorem stW_step {P : Program} {ops : Array Oper} {w : World} {Q : Act → Prop} {a : Act} {o : Oper} {rest : List Oper}
    (h : ∀ K : Act → Prop, (∀ a, StW P ops w Q rest a → K a) → if Region.wanted o (yielded ops a.tmps) then o.still P a w K else K (a.put o.dst undef)) : StW P ops w Q (o :: rest) a :=
  ⟨wpStill_step fun K hK => h K fun a hs => hK a hs.out⟩
/-- Behind j operations. -/
structure WrOk (j : Nat) (s t : Ws) (es : List Lt) (T : Nat) : Prop where
  s : s.L.length ≤ 80 * j
  t : t.L.length ≤ 80 * j
  n : T + es.length ≤ 2 * j
  B : ∀ e ∈ es, e.B.length ≤ 100000

set_option maxRecDepth 100000 in
set_option maxHeartbeats 16000000 in
theorem BitsWrites_c (v0 : Value) (l : List OpD) (w : World) (F : List HProp) (H : Holds w F) (hs : Sees F 4 v0 l.length (opsv l)) (hl : ∀ o ∈ l, o.ok) :
    Calls Try.prog 5 #[v0] w (Ret w (.bool true) F) := by
  obtain ⟨a0, k0, rfl⟩ := slice_shapeW (hs w H)
  have HB := (((H.alloc (.cells #[.slice none 0 0, .int .i64 0, .int .i64 0, .slice none 0 0, .int .i64 0, .int .i64 0] 49)).alloc (.cells #[.slice none 0 0, .int .i64 0, .slice none 0 0, .int .i64 0] 52)).alloc (.cells (bkCells bk0) 79)).alloc (.cells #[.slice none 0 0, .slice none 0 0] 82)
  simp only [alloc_size] at HB
  have SB := ((((Str.refl w).alloc (.cells #[.slice none 0 0, .int .i64 0, .int .i64 0, .slice none 0 0, .int .i64 0, .int .i64 0] 49)).alloc (.cells #[.slice none 0 0, .int .i64 0, .slice none 0 0, .int .i64 0] 52)).alloc (.cells (bkCells bk0) 79)).alloc (.cells #[.slice none 0 0, .slice none 0 0] 82)
  have HB2 := lateL_nil HB
  have HB3 := book_new HB2.swap
  have HB4 := pairF_new HB3.pull2
  have HB5 := pairW_new HB4.pull3
  have HB6 := Holds.ord (l := [_, _, _, _]) HB5 [0, 1, 3, 2] rfl
  simp only [List.map, List.getD_cons_zero, List.getD_cons_succ, List.cons_append, List.nil_append] at HB6
  clear HB HB2 HB3 HB4 HB5
  go_enter Try.func5, Try.ntmps5
  go_wp2
  refine wp_buildBook rfl ?_
  go_wp2
  go_loopw [7] (fun s7 wl => ∃ (j : Nat) (s t : Ws) (es : List Lt) (T : Nat), j ≤ 400 ∧ s7 = .int .i64 j ∧ WrOk j s t es T ∧ Holds wl (pairW w.heap.size s t :: pairF (w.heap.size + 1) s t :: lateL (w.heap.size + 1 + 1 + 1) es :: bookS (w.heap.size + 1 + 1) T :: F) ∧ Str w wl) (fun s7 _ => (1000 - intOf s7).toNat)
  case atStart => exact ⟨0, _, _, _, _, by omega, rfl, ⟨by simp, by simp, by simp, by simp⟩, HB6, SB⟩
  case round =>
    clear HB6 SB
    obtain ⟨j, s, t, es, T, hj4, rfl, hok, Hr, Sr⟩ := hrel
    obtain ⟨hsL, htL, hnT, hBs⟩ := hok
    replace hBs := Lib.hid hBs
    replace hsL := Lib.hid hsL
    replace htL := Lib.hid htL
    replace hnT := Lib.hid hnT
    by_cases hjn : j < l.length ∧ j < 400
    · obtain ⟨hjn, hj400⟩ := hjn
      obtain ⟨g, off, cap, hv, hcap, hcm, c0, c1, c2, c3⟩ := ops_cells (hs _ Hr.tail.tail.tail.tail) hjn
      obtain ⟨⟨hd1, hd2⟩, ⟨ho1, ho2⟩, hox, ⟨hn1, hn2⟩⟩ := hl _ (List.getElem_mem hjn)
      have hcap' := hcm
      unfold maxLen at hcap'
      simp only [Value.slice.injEq] at hv
      obtain ⟨rfl, _, rfl⟩ := hv
      have hok := hl _ (List.getElem_mem hjn)
      obtain ⟨o, ho⟩ : ∃ o, o = l[j] := ⟨_, rfl⟩
      rw [← ho] at c0 c1 c2 c3 hd1 hd2 ho1 ho2 hox hn1 hn2 hok
      replace ho := Lib.hid ho
      have hw0 := and_one_w o.on
      obtain ⟨q, hq⟩ : ∃ q, q = bits .and .i64 o.on 1 := ⟨_, rfl⟩
      rw [← hq] at hw0
      go_upto_region 9 with fail
      rw [← hq]
      rcases hw0 with rfl | rfl
      · clear hq
        have HT := Hr.drew
        have hC := pLay0 w.heap.size (w.heap.size + 1) o hok s t _ _ HT (by have := hsL.out; omega)
        unfold opa at hC
        go_region_with (first | (go_at_call 22; refine hC.mono ?_; rintro e w1 ⟨rfl, H1, S1⟩) | fail)
        all_goals
          clear HT hC c0 c1 c2 c3
          obtain ⟨vx, ux, H1⟩ := pairFX_name H1.swap
          obtain ⟨af, kf, rfl⟩ := pShape0 H1
          replace H1 := H1.swap
          obtain ⟨d0, d1, d2, d3⟩ := ops_cellsW (hs _ H1.tail.tail.tail.tail) hjn
          rw [← ho.out] at d0
          have x0 := pCell0 H1.tail
          have hlen := lay_len s o hok
          replace hlen := Lib.hid hlen
          have HD := H1.drew
          have kL := pLen0 w.heap.size (s.lay o) t _ _ HD
          clear d1 d2 d3
          by_cases hd6 : o.d = 6
          · have kD := pDone0 w.heap.size (w.heap.size + 1) (w.heap.size + 1 + 1 + 1) (s.lay o) t _ _ es _ _ HD (by have := hsL.out; have := hlen.out; omega) (by have := hnT.out; omega)
            rw [hd6] at d0
            go_upto_region 10 with fail
            go_region_held3 (fun w' => w'.cell? ⟨w.heap.size + 1, 0, none⟩ = some (.slice af (s.lay o).L.length kf) ∧ w'.cell? ⟨g, off + j * 4, none⟩ = some (.int .i64 6)) (go_keep) (first | (go_at_call 11; refine kL.mono ?_; rintro e w2 ⟨rfl, hw2⟩; obtain rfl := hw2.symm) | (go_at_call 23; refine kD.mono ?_; rintro e w3 ⟨rfl, es3, hes3, H3, S3⟩; have H3' := Holds.ord (l := [_, _, _, _]) H3 [2, 3, 0, 1] rfl; simp only [List.map, List.getD_cons_zero, List.getD_cons_succ, List.cons_append, List.nil_append] at H3'; have hB3 : ∀ e ∈ es3, e.B.length ≤ 100000 := (fun e he => (hes3.2 e he).elim (hBs.out e) (fun h => by have := hsL.out; have := hlen.out; omega)); have hl3 := hes3.1; clear hes3; have x3 := pCell0 H3.tail; obtain ⟨d0', _, _, _⟩ := ops_cellsW (hs _ H3.tail.tail.tail.tail) hjn; rw [← ho.out, hd6] at d0'; have hb3 : es3.length ≤ 100000 ∧ T ≤ 800000000000 := (by have := hnT.out; omega); replace hl3 := Lib.hid hl3; replace hB3 := Lib.hid hB3) | (go_at_call 24; refine (lateSettle_c (w.heap.size + 1 + 1 + 1) (w.heap.size + 1 + 1) T 6 es3 _ _ H3' hb3.1 hb3.2 (fun e he => by have := hB3.out e he; omega) (by omega)).mono ?_; rintro e w4 ⟨rfl, es4, T4, hes4, H4, S4⟩; have H4' := Holds.ord (l := [_, _, _, _]) H4 [2, 3, 0, 1] rfl; simp only [List.map, List.getD_cons_zero, List.getD_cons_succ, List.cons_append, List.nil_append] at H4'; have x4 := pCell0 H4'.tail; obtain ⟨d0'', _, _, _⟩ := ops_cellsW (hs _ H4'.tail.tail.tail.tail) hjn; rw [← ho.out, hd6] at d0''; replace hes4 := Lib.hid hes4))
            all_goals
              have H5 := pairFX_hide H4'.swap
              clear x0 d0 x3 d0' x4 d0'' kL kD HD
              go_wp2_with fail
              go_roundw
              case rel =>
                refine ⟨j + 1, _, _, es4, T4, by omega, by congr 1, ⟨by have := hsL.out; have := hlen.out; omega, by have := htL.out; have := hlen.out; omega, by have := hes4.out; have := hl3.out; have := hnT.out; omega, ?_⟩, H5.swap, ?_⟩
                · intro e he
                  rcases hes4.out.1 with h | h
                  · rw [h] at he; exact hB3.out e he
                  · rw [h] at he; cases he
                · exact ((Sr.drew.trans S1).drew.trans S3).trans S4
              case measure => (simp [intOf] <;> omega)
          · have hd6' : (o.d == 6) = false := beq_eq_false_iff_ne.2 hd6
            have HD' := Holds.ord (l := [_, _, _, _]) HD [2, 3, 0, 1] rfl
            simp only [List.map, List.getD_cons_zero, List.getD_cons_succ, List.cons_append, List.nil_append] at HD'
            have kS := lateSettle_c (w.heap.size + 1 + 1 + 1) (w.heap.size + 1 + 1) T 6 es _ _ HD' (by have := hnT.out; omega) (by have := hnT.out; omega) (fun e he => by have := hBs.out e he; omega) (by omega)
            go_upto_region 10 with fail
            refine wp_region_still_tail 29 (by kernel_rfl) (by kernel_rfl) ?_
            simp only [List.take_succ_cons, List.take_zero, List.drop_succ_cons, List.drop_zero]
            refine StW.out ?_
            iterate 2 (refine stW_step (fun K hK => ?_); go_simp; refine hK _ ?_; clear hK K)
            refine stW_step (fun K hK => ?_)
            go_simp
            refine ⟨_, kL, hK _ ?_⟩
            clear hK K
            iterate 26 (refine stW_step (fun K hK => ?_); go_simp; refine hK _ ?_; clear hK K)
            refine stW_nil ?_
            change wpList _ _ _ _ _ w1.drew
            go_wp2_with (go_at_call 24; refine kS.mono ?_; rintro e w4 ⟨rfl, es4, T4, hes4, H4, S4⟩; have H4' := Holds.ord (l := [_, _, _, _]) H4 [2, 3, 0, 1] rfl; simp only [List.map, List.getD_cons_zero, List.getD_cons_succ, List.cons_append, List.nil_append] at H4'; replace hes4 := Lib.hid hes4)
            all_goals
              have H5 := pairFX_hide H4'.swap
              clear x0 d0 kL kS HD
              go_roundw
              case rel =>
                refine ⟨j + 1, _, _, es4, T4, by omega, by congr 1, ⟨by have := hsL.out; have := hlen.out; omega, by have := htL.out; have := hlen.out; omega, by have := hes4.out; have := hnT.out; omega, ?_⟩, H5.swap, ?_⟩
                · intro e he
                  rcases hes4.out.1 with h | h
                  · rw [h] at he; exact hBs.out e he
                  · rw [h] at he; cases he
                · exact (Sr.drew.trans S1).drew.trans S4
              case measure => (simp [intOf] <;> omega)
      · clear hq
        have HT := Hr.drew
        have hC := pLay1 w.heap.size (w.heap.size + 1) o hok s t _ _ HT (by have := htL.out; omega)
        unfold opa at hC
        go_region_with (first | (go_at_call 22; refine hC.mono ?_; rintro e w1 ⟨rfl, H1, S1⟩) | fail)
        all_goals
          clear HT hC c0 c1 c2 c3
          obtain ⟨vx, ux, H1⟩ := pairFX_name H1.swap
          obtain ⟨af, kf, rfl⟩ := pShape1 H1
          replace H1 := H1.swap
          obtain ⟨d0, d1, d2, d3⟩ := ops_cellsW (hs _ H1.tail.tail.tail.tail) hjn
          rw [← ho.out] at d0
          have x0 := pCell1 H1.tail
          have hlen := lay_len t o hok
          replace hlen := Lib.hid hlen
          have HD := H1.drew
          have kL := pLen1 w.heap.size s (t.lay o) _ _ HD
          clear d1 d2 d3
          by_cases hd6 : o.d = 6
          · have kD := pDone1 w.heap.size (w.heap.size + 1) (w.heap.size + 1 + 1 + 1) s (t.lay o) _ _ es _ _ HD (by have := htL.out; have := hlen.out; omega) (by have := hnT.out; omega)
            rw [hd6] at d0
            go_upto_region 10 with fail
            go_region_held3 (fun w' => w'.cell? ⟨w.heap.size + 1, 2, none⟩ = some (.slice af (t.lay o).L.length kf) ∧ w'.cell? ⟨g, off + j * 4, none⟩ = some (.int .i64 6)) (go_keep) (first | (go_at_call 11; refine kL.mono ?_; rintro e w2 ⟨rfl, hw2⟩; obtain rfl := hw2.symm) | (go_at_call 23; refine kD.mono ?_; rintro e w3 ⟨rfl, es3, hes3, H3, S3⟩; have H3' := Holds.ord (l := [_, _, _, _]) H3 [2, 3, 0, 1] rfl; simp only [List.map, List.getD_cons_zero, List.getD_cons_succ, List.cons_append, List.nil_append] at H3'; have hB3 : ∀ e ∈ es3, e.B.length ≤ 100000 := (fun e he => (hes3.2 e he).elim (hBs.out e) (fun h => by have := htL.out; have := hlen.out; omega)); have hl3 := hes3.1; clear hes3; have x3 := pCell1 H3.tail; obtain ⟨d0', _, _, _⟩ := ops_cellsW (hs _ H3.tail.tail.tail.tail) hjn; rw [← ho.out, hd6] at d0'; have hb3 : es3.length ≤ 100000 ∧ T ≤ 800000000000 := (by have := hnT.out; omega); replace hl3 := Lib.hid hl3; replace hB3 := Lib.hid hB3) | (go_at_call 24; refine (lateSettle_c (w.heap.size + 1 + 1 + 1) (w.heap.size + 1 + 1) T 6 es3 _ _ H3' hb3.1 hb3.2 (fun e he => by have := hB3.out e he; omega) (by omega)).mono ?_; rintro e w4 ⟨rfl, es4, T4, hes4, H4, S4⟩; have H4' := Holds.ord (l := [_, _, _, _]) H4 [2, 3, 0, 1] rfl; simp only [List.map, List.getD_cons_zero, List.getD_cons_succ, List.cons_append, List.nil_append] at H4'; have x4 := pCell1 H4'.tail; obtain ⟨d0'', _, _, _⟩ := ops_cellsW (hs _ H4'.tail.tail.tail.tail) hjn; rw [← ho.out, hd6] at d0''; replace hes4 := Lib.hid hes4))
            all_goals
              have H5 := pairFX_hide H4'.swap
              clear x0 d0 x3 d0' x4 d0'' kL kD HD
              go_wp2_with fail
              go_roundw
              case rel =>
                refine ⟨j + 1, _, _, es4, T4, by omega, by congr 1, ⟨by have := hsL.out; have := hlen.out; omega, by have := htL.out; have := hlen.out; omega, by have := hes4.out; have := hl3.out; have := hnT.out; omega, ?_⟩, H5.swap, ?_⟩
                · intro e he
                  rcases hes4.out.1 with h | h
                  · rw [h] at he; exact hB3.out e he
                  · rw [h] at he; cases he
                · exact ((Sr.drew.trans S1).drew.trans S3).trans S4
              case measure => (simp [intOf] <;> omega)
          · have hd6' : (o.d == 6) = false := beq_eq_false_iff_ne.2 hd6
            have HD' := Holds.ord (l := [_, _, _, _]) HD [2, 3, 0, 1] rfl
            simp only [List.map, List.getD_cons_zero, List.getD_cons_succ, List.cons_append, List.nil_append] at HD'
            have kS := lateSettle_c (w.heap.size + 1 + 1 + 1) (w.heap.size + 1 + 1) T 6 es _ _ HD' (by have := hnT.out; omega) (by have := hnT.out; omega) (fun e he => by have := hBs.out e he; omega) (by omega)
            go_upto_region 10 with fail
            refine wp_region_still_tail 29 (by kernel_rfl) (by kernel_rfl) ?_
            simp only [List.take_succ_cons, List.take_zero, List.drop_succ_cons, List.drop_zero]
            refine StW.out ?_
            iterate 2 (refine stW_step (fun K hK => ?_); go_simp; refine hK _ ?_; clear hK K)
            refine stW_step (fun K hK => ?_)
            go_simp
            refine ⟨_, kL, hK _ ?_⟩
            clear hK K
            iterate 26 (refine stW_step (fun K hK => ?_); go_simp; refine hK _ ?_; clear hK K)
            refine stW_nil ?_
            change wpList _ _ _ _ _ w1.drew
            go_wp2_with (go_at_call 24; refine kS.mono ?_; rintro e w4 ⟨rfl, es4, T4, hes4, H4, S4⟩; have H4' := Holds.ord (l := [_, _, _, _]) H4 [2, 3, 0, 1] rfl; simp only [List.map, List.getD_cons_zero, List.getD_cons_succ, List.cons_append, List.nil_append] at H4'; replace hes4 := Lib.hid hes4)
            all_goals
              have H5 := pairFX_hide H4'.swap
              clear x0 d0 kL kS HD
              go_roundw
              case rel =>
                refine ⟨j + 1, _, _, es4, T4, by omega, by congr 1, ⟨by have := hsL.out; have := hlen.out; omega, by have := htL.out; have := hlen.out; omega, by have := hes4.out; have := hnT.out; omega, ?_⟩, H5.swap, ?_⟩
                · intro e he
                  rcases hes4.out.1 with h | h
                  · rw [h] at he; exact hBs.out e he
                  · rw [h] at he; cases he
                · exact (Sr.drew.trans S1).drew.trans S4
              case measure => (simp [intOf] <;> omega)
    · have hcase : j < l.length ∨ ¬ j < l.length := by omega
      rcases hcase with hjl | hjl
      all_goals
        obtain ⟨vx, ux, Hr1⟩ := pairFX_name Hr.swap
        replace Hr1 := Hr1.swap
        clear Hr
        go_wp2_with fail
        refine (pDone0 w.heap.size (w.heap.size + 1) (w.heap.size + 1 + 1 + 1) s t _ _ es _ _ Hr1 (by have := hsL.out; omega) (by have := hnT.out; omega)).mono ?_
        rintro e w1 ⟨rfl, es1, hes1, H1, S1⟩
        have hl1 := hes1.1
        have hB1 : ∀ e ∈ es1, e.B.length ≤ 100000 := fun e he => (hes1.2 e he).elim (hBs.out e) (fun h => by have := hsL.out; omega)
        clear hes1
        replace hl1 := Lib.hid hl1
        replace hB1 := Lib.hid hB1
        go_wp2_with fail
        refine (pDone1 w.heap.size (w.heap.size + 1) (w.heap.size + 1 + 1 + 1) s t _ _ es1 _ _ H1 (by have := htL.out; omega) (by have := hl1.out; have := hnT.out; omega)).mono ?_
        rintro e w2 ⟨rfl, es2, hes2, H2, S2⟩
        have hl2 := hes2.1
        have hB2 : ∀ e ∈ es2, e.B.length ≤ 100000 := fun e he => (hes2.2 e he).elim (hB1.out e) (fun h => by have := htL.out; omega)
        clear hes2
        replace hl2 := Lib.hid hl2
        replace hB2 := Lib.hid hB2
        have H2' := Holds.ord (l := [_, _, _, _]) H2 [2, 3, 0, 1] rfl
        simp only [List.map, List.getD_cons_zero, List.getD_cons_succ, List.cons_append, List.nil_append] at H2'
        go_wp2_with fail
        refine (lateSettle_c (w.heap.size + 1 + 1 + 1) (w.heap.size + 1 + 1) T 0 es2 _ _ H2' (by have := hl1.out; have := hl2.out; have := hnT.out; omega) (by have := hnT.out; omega) (fun e he => by have := hB2.out e he; omega) (by omega)).mono ?_
        rintro e w3 ⟨rfl, es3, T3, hes3, H3, S3⟩
        have hT3 : T3 ≤ 900000000000 := by have := hes3.2; have := hl1.out; have := hl2.out; have := hnT.out; omega
        clear hes3
        go_wp2_with fail
        refine (bkLook_c (w.heap.size + 1 + 1) T3 _ _ H3.swap hT3).mono ?_
        rintro e w4 ⟨rfl, H4, S4⟩
        go_wp2_with fail
        refine (works_c _ _ H4).mono ?_
        rintro e w5 ⟨rfl, H5, S5⟩
        go_wp2_with fail
        refine bodyPost_ret (results_tmp rfl _ _ _) rfl ⟨rfl, H5.tail.tail.tail.tail, Sr.trans ((((S1.trans S2).trans S3).trans S4).trans S5)⟩
end Go.Proofs.Ytngnfdlkkedaaaa
