/- The law BitsReads, walked. -/
import Derived.Test.YtngnfdlkkedaaaaReads1
import Derived.Deep.RegionHeld3
import Derived.Deep.DrawnRows
namespace Go.Proofs.Ytngnfdlkkedaaaa
open Go.RowKit Go.SL Go.Fm
set_option linter.unusedVariables false
set_option linter.unusedSimpArgs false
attribute [local go_sem ↓] Go.wp_at_zero Go.wp_at_succ

/-- Behind k of the two beginnings. -/
def RdSt (A B : List Nat) (rb vb bx : Nat) (F : List HProp) (cs : Array Value) : Nat → World → Prop
  | 0, w => Holds w (pts rb (.cells #[.pointer none, .pointer none] 90 (0, 0)) :: pts vb (.cells #[.pointer none, .pointer none] 92 (0, 0)) :: pts bx (.cells cs 89 (0, 0)) :: F)
  | 1, w => ∃ a b, Holds w (pts rb (.cells #[.pointer (some ⟨a, 0, none⟩), .pointer none] 90 (0, 0)) :: pts vb (.cells #[.pointer (some ⟨b, 0, none⟩), .pointer none] 92 (0, 0)) :: pts bx (.cells cs 89 (0, 0)) :: rS a ⟨unpack A, 0⟩ :: qS b ⟨unpack A, 0⟩ :: F)
  | 2, w => ∃ a b c d, Holds w (pts rb (.cells #[.pointer (some ⟨a, 0, none⟩), .pointer (some ⟨c, 0, none⟩)] 90 (0, 0)) :: pts vb (.cells #[.pointer (some ⟨b, 0, none⟩), .pointer (some ⟨d, 0, none⟩)] 92 (0, 0)) :: pts bx (.cells cs 89 (0, 0)) :: rS a ⟨unpack A, 0⟩ :: qS b ⟨unpack A, 0⟩ :: rS c ⟨unpack B, 0⟩ :: qS d ⟨unpack B, 0⟩ :: F)
  | _, _ => False

set_option maxRecDepth 100000 in
set_option maxHeartbeats 4000000 in
theorem BitsReads_c (v0 v1 v2 : Value) (A B : List Nat) (l : List OpD) (w : World) (F : List HProp) (H : Holds w F) (hA : ∀ x ∈ A, x < 256) (hB : ∀ x ∈ B, x < 256) (hl : ∀ o ∈ l, o.ok)
    (hs0 : Sees F 1 v0 A.length (bv A)) (hs1 : Sees F 1 v1 B.length (bv B)) (hs2 : Sees F 4 v2 l.length (opsv l)) :
    Calls Try.prog 6 #[.agg #[v0, v1, v2]] w (Ret w (.bool true) F) := by
  obtain ⟨a0, k0, rfl⟩ := slice_shape (hs0 w H)
  obtain ⟨a1, k1, rfl⟩ := slice_shape (hs1 w H)
  obtain ⟨a2, k2, rfl⟩ := slice_shape (hs2 w H)
  have HB := ((H.alloc (.cells #[.slice a0 A.length k0, .slice a1 B.length k1, .slice a2 l.length k2] 89)).alloc (.cells #[.pointer none, .pointer none] 90)).alloc (.cells #[.pointer none, .pointer none] 92)
  go_enter Try.func6, Try.ntmps6
  go_wp2
  go_loopw [5] (fun s5 wr => ∃ (k : Nat), s5 = .int .i64 k ∧ RdSt A B (w.heap.size + 1) (w.heap.size + 1 + 1) w.heap.size F #[.slice a0 A.length k0, .slice a1 B.length k1, .slice a2 l.length k2] k wr ∧ Str w wr) (fun s5 _ => (10 - intOf s5).toNat)
  case atStart => exact ⟨0, rfl, by have h := HB.swap; simp at h; exact h, (((Str.refl w).alloc _).alloc _).alloc _⟩
  case round =>
    clear HB
    obtain ⟨k, rfl, Hr, Sr⟩ := hrel
    match k, Hr with
    | 0, Hr =>
      replace Hr : Holds wr _ := Hr
      have hcellw := Hr.pull2.cell 0
      simp at hcellw
      by_cases hC64 : 65536 < A.length
      · go_wp2_with fail
        refine (works_c _ _ Hr).mono ?_
        rintro e w1 ⟨rfl, H1, S1⟩
        go_wp2_with fail
        refine bodyPost_ret (results_tmp rfl _ _ _) rfl ⟨rfl, H1.tail.tail.tail, Sr.trans S1⟩
      · go_wp2_with fail
        refine (Lend_c _ A _ _ Hr hs0.cons.cons.cons (by omega)).mono ?_
        rintro e w1 ⟨vi, rfl, H1, S1⟩
        go_wp2_with fail
        refine (From_c _ A _ _ H1 (lent_is H1) hA (by omega)).mono ?_
        rintro e w2 ⟨ra, rfl, H2, S2⟩
        have e0 := H2.pull2.cell 0
        have z0 := H2.pull2.free 0
        have f0 := H2.pull3.cell 0
        have y0 := H2.pull3.free 0
        have hcell2 := H2.pull4.cell 0
        simp at e0 f0 hcell2
        go_wp2_with fail
        have H3 := H2.pull2.store 0 (.pointer (some ⟨ra, 0, none⟩))
        refine (rrFrom_c _ A _ _ H3 hs0.cons.cons.cons.cons.cons hA (by omega)).mono ?_
        rintro e w3 ⟨rb, rfl, H4, S4⟩
        simp at H4
        have e1 := H4.swap.cell 0
        have f1 := H4.pull4.cell 0
        have y1 := H4.pull4.free 0
        have hcell3 := (Holds.pull (l1 := [_, _, _, _, _]) H4).cell 0
        simp at e1 f1 hcell3
        go_wp2_with fail
        have H5 := Holds.ord (l := [_, _, _, _, _]) (H4.pull4.store 0 (.pointer (some ⟨rb, 0, none⟩))) [4, 0, 1, 2, 3] rfl
        refine (Intact_c _ _ A _ _ H5 hs0.cons.cons.cons.cons.cons (by omega)).mono ?_
        rintro e w5 ⟨rfl, H6, S6⟩
        go_wp2_with fail
        refine (Over_c _ A _ _ H6 (by omega)).mono ?_
        rintro e w6 ⟨rfl, H7, S7⟩
        go_wp2_with fail
        go_roundw
        case rel => exact ⟨1, by congr 1, ⟨ra, rb, by have h := Holds.ord (l := [_, _, _, _, _]) H7 [2, 0, 4, 3, 1] rfl; simpa using h⟩, (((((Sr.trans S1).trans S2).setCell _ _).trans S4).setCell _ _).trans (S6.trans S7)⟩
        case measure => (simp [intOf] <;> omega)
    | 1, Hr =>
      obtain ⟨a, b, Hr⟩ : ∃ a b, Holds wr _ := Hr
      have hcellw := Hr.pull2.cell 1
      simp at hcellw
      by_cases hC64 : 65536 < B.length
      · go_wp2_with fail
        refine (works_c _ _ Hr).mono ?_
        rintro e w1 ⟨rfl, H1, S1⟩
        go_wp2_with fail
        refine bodyPost_ret (results_tmp rfl _ _ _) rfl ⟨rfl, H1.tail.tail.tail.tail.tail, Sr.trans S1⟩
      · go_wp2_with fail
        refine (Lend_c _ B _ _ Hr hs1.cons.cons.cons.cons.cons (by omega)).mono ?_
        rintro e w1 ⟨vi, rfl, H1, S1⟩
        go_wp2_with fail
        refine (From_c _ B _ _ H1 (lent_is H1) hB (by omega)).mono ?_
        rintro e w2 ⟨ra, rfl, H2, S2⟩
        have e0 := H2.pull2.cell 1
        have z0 := H2.pull2.free 1
        have f0 := H2.pull3.cell 1
        have y0 := H2.pull3.free 1
        have hcell2 := H2.pull4.cell 1
        simp at e0 f0 hcell2
        go_wp2_with fail
        have H3 := H2.pull2.store 1 (.pointer (some ⟨ra, 0, none⟩))
        refine (rrFrom_c _ B _ _ H3 hs1.cons.cons.cons.cons.cons.cons.cons hB (by omega)).mono ?_
        rintro e w3 ⟨rb, rfl, H4, S4⟩
        simp at H4
        have e1 := H4.swap.cell 1
        have f1 := H4.pull4.cell 1
        have y1 := H4.pull4.free 1
        have hcell3 := (Holds.pull (l1 := [_, _, _, _, _]) H4).cell 1
        simp at e1 f1 hcell3
        go_wp2_with fail
        have H5 := Holds.ord (l := [_, _, _, _, _]) (H4.pull4.store 1 (.pointer (some ⟨rb, 0, none⟩))) [4, 0, 1, 2, 3] rfl
        refine (Intact_c _ _ B _ _ H5 hs1.cons.cons.cons.cons.cons.cons.cons (by omega)).mono ?_
        rintro e w5 ⟨rfl, H6, S6⟩
        go_wp2_with fail
        refine (Over_c _ B _ _ H6 (by omega)).mono ?_
        rintro e w6 ⟨rfl, H7, S7⟩
        go_wp2_with fail
        go_roundw
        case rel => exact ⟨2, by congr 1, ⟨a, b, ra, rb, by have h := Holds.ord (l := [_, _, _, _, _, _, _]) H7 [2, 0, 4, 5, 6, 3, 1] rfl; simpa using h⟩, (((((Sr.trans S1).trans S2).setCell _ _).trans S4).setCell _ _).trans (S6.trans S7)⟩
        case measure => (simp [intOf] <;> omega)
    | 2, Hr =>
      obtain ⟨a, b, c, d, Hr⟩ : ∃ a b c d, Holds wr _ := Hr
      rw [show ((2 : Nat) : Int) = 2 from rfl]
      go_wp2_with fail
      go_loopw [7] (fun s7 wl => ∃ (j : Nat) (s t : Rs), j ≤ 400 ∧ s7 = .int .i64 j ∧ Holds wl (pts (w.heap.size + 1) (.cells #[.pointer (some ⟨a, 0, none⟩), .pointer (some ⟨c, 0, none⟩)] 90 (0, 0)) :: pts (w.heap.size + 1 + 1) (.cells #[.pointer (some ⟨b, 0, none⟩), .pointer (some ⟨d, 0, none⟩)] 92 (0, 0)) :: pts w.heap.size (.cells #[.slice a0 A.length k0, .slice a1 B.length k1, .slice a2 l.length k2] 89 (0, 0)) :: rS a s :: qS b s :: rS c t :: qS d t :: F) ∧ Str w wl) (fun s7 _ => (1000 - intOf s7).toNat)
      case atStart => exact ⟨0, _, _, by omega, rfl, Hr, Sr⟩
      case round =>
        clear Hr Sr
        obtain ⟨j, s, t, hj4, rfl, Hr, Sr⟩ := hrel
        have cb2 := Hr.pull2.cell 2
        simp at cb2
        by_cases hjn : j < l.length ∧ j < 400
        · obtain ⟨hjn, hj400⟩ := hjn
          obtain ⟨g, off, cap, hv, hcap, hcm, c0, c1, c2, c3⟩ := ops_cells (hs2 _ (Hr.tail.tail.tail.tail.tail.tail.tail)) hjn
          have hok := hl _ (List.getElem_mem hjn)
          obtain ⟨⟨hd1, hd2⟩, ⟨ho1, ho2⟩, hox, ⟨hn1, hn2⟩⟩ := hok
          have hcap' := hcm
          unfold maxLen at hcap'
          simp only [Value.slice.injEq] at hv
          obtain ⟨rfl, _, rfl⟩ := hv
          obtain ⟨o, ho⟩ : ∃ o, o = l[j] := ⟨_, rfl⟩
          have hok := hl _ (List.getElem_mem hjn)
          rw [← ho] at c0 c1 c2 c3 hd1 hd2 ho1 ho2 hox hn1 hn2 hok
          replace ho := Lib.hid ho
          have hw0 := and_one_i64 o.on
          obtain ⟨q, hq⟩ : ∃ q, q = bits .and .i64 o.on 1 := ⟨_, rfl⟩
          rw [← hq] at hw0
          go_upto_region 18 with fail
          rw [← hq]
          have r0 := Hr.cell 0
          have r1 := Hr.cell 1
          have v0 := Hr.swap.cell 0
          have v1 := Hr.swap.cell 1
          simp at r0 r1 v0 v1
          rcases hw0 with rfl | rfl
          · have HT := (Holds.ord (l := [_, _, _, _, _]) Hr [3, 4, 0, 1, 2] rfl).drew
            simp only [List.map, List.getD_cons_zero, List.getD_cons_succ, List.cons_append, List.nil_append] at HT
            clear r1 v1 cb2 hq
            have x0 := (Hr.pull2).cell 2
            simp at x0
            go_region_held3 (fun w' => w'.cell? ⟨w.heap.size + 1, 0, none⟩ = some (.pointer (some ⟨a, 0, none⟩)) ∧ w'.cell? ⟨w.heap.size + 1 + 1, 0, none⟩ = some (.pointer (some ⟨b, 0, none⟩)) ∧ w'.cell? ⟨w.heap.size, 2, none⟩ = some (.slice (some ⟨g, off, none⟩) l.length k2) ∧ w'.cell? ⟨g, off + j * 4, none⟩ = some (.int .i64 o.d) ∧ w'.cell? ⟨g, off + j * 4 + 1, none⟩ = some (.int .i64 o.on) ∧ w'.cell? ⟨g, off + j * 4 + 2, none⟩ = some (.int .u64 o.x) ∧ w'.cell? ⟨g, off + j * 4 + 3, none⟩ = some (.int .i64 o.n)) (go_keep) (first | (go_at_call 30; refine (take1_c a b o hok s _ _ HT).mono ?_; rintro e w1 ⟨rfl, H1, S1⟩; have r2 := H1.tail.tail.cell 0; have v2 := H1.tail.tail.swap.cell 0; have x2 := H1.tail.tail.pull2.cell 2; obtain ⟨d0, d1, d2, d3⟩ := ops_cellsB (hs2 _ (H1.tail.tail.tail.tail.tail.tail.tail)) hjn; rw [← ho.out] at d0 d1 d2 d3; simp at r2 v2 x2) | (go_at_call 20; refine (rLeft_c a (s.took o) _ _ (by first | exact H1 | exact H1.drewN _)).mono ?_; rintro e w2 ⟨rfl, m2, rfl⟩) | (go_at_call 31; refine (rrLeft_c b (s.took o) _ _ (by first | exact H1.swap | exact H1.swap.drewN _)).mono ?_; rintro e w3 ⟨rfl, hw3⟩; obtain rfl := hw3.symm) | (go_at_call 21; refine (rEnd_c a (s.took o) _ _ (by first | exact H1 | exact H1.drewN _)).mono ?_; rintro e w4 ⟨rfl, m4, rfl⟩) | (go_at_call 17; refine (num_c _ _).mono ?_; rintro e w5 ⟨rfl, hw5⟩; obtain rfl := hw5.symm) | (go_at_call 32; refine (rrEnd_c b (s.took o) _ _ (by first | exact H1.swap | exact H1.swap.drewN _)).mono ?_; rintro e w6 ⟨rfl, hw6⟩; obtain rfl := hw6.symm))
            all_goals
              have HF := Holds.ord (l := [_, _, _, _, _]) H1 [2, 3, 4, 0, 1] rfl
              simp only [List.map, List.getD_cons_zero, List.getD_cons_succ, List.cons_append, List.nil_append] at HF
              clear r2 v2 x2 d0 d1 d2 d3 r0 v0 x0 c0 c1 c2 c3 HT
              go_wp2_with fail
              go_roundw
              case rel => exact ⟨j + 1, s.took o, t, by omega, by congr 1, by first | exact HF | exact HF.drewN _ | exact (HF.drewN _).drewN _, by first | exact Sr.drew.trans S1 | exact (Sr.drew.trans S1).drewN _ | exact ((Sr.drew.trans S1).drewN _).drewN _⟩
              case measure => (simp [intOf] <;> omega)
          · have HT := (Holds.ord (l := [_, _, _, _, _, _, _]) Hr [5, 6, 0, 1, 2, 3, 4] rfl).drew
            simp only [List.map, List.getD_cons_zero, List.getD_cons_succ, List.cons_append, List.nil_append] at HT
            clear r0 v0 cb2 hq
            have x0 := (Hr.pull2).cell 2
            simp at x0
            go_region_held3 (fun w' => w'.cell? ⟨w.heap.size + 1, 1, none⟩ = some (.pointer (some ⟨c, 0, none⟩)) ∧ w'.cell? ⟨w.heap.size + 1 + 1, 1, none⟩ = some (.pointer (some ⟨d, 0, none⟩)) ∧ w'.cell? ⟨w.heap.size, 2, none⟩ = some (.slice (some ⟨g, off, none⟩) l.length k2) ∧ w'.cell? ⟨g, off + j * 4, none⟩ = some (.int .i64 o.d) ∧ w'.cell? ⟨g, off + j * 4 + 1, none⟩ = some (.int .i64 o.on) ∧ w'.cell? ⟨g, off + j * 4 + 2, none⟩ = some (.int .u64 o.x) ∧ w'.cell? ⟨g, off + j * 4 + 3, none⟩ = some (.int .i64 o.n)) (go_keep) (first | (go_at_call 30; refine (take1_c c d o hok t _ _ HT).mono ?_; rintro e w1 ⟨rfl, H1, S1⟩; have r2 := H1.tail.tail.cell 1; have v2 := H1.tail.tail.swap.cell 1; have x2 := H1.tail.tail.pull2.cell 2; obtain ⟨d0, d1, d2, d3⟩ := ops_cellsB (hs2 _ (H1.tail.tail.tail.tail.tail.tail.tail)) hjn; rw [← ho.out] at d0 d1 d2 d3; simp at r2 v2 x2) | (go_at_call 20; refine (rLeft_c c (t.took o) _ _ (by first | exact H1 | exact H1.drewN _)).mono ?_; rintro e w2 ⟨rfl, m2, rfl⟩) | (go_at_call 31; refine (rrLeft_c d (t.took o) _ _ (by first | exact H1.swap | exact H1.swap.drewN _)).mono ?_; rintro e w3 ⟨rfl, hw3⟩; obtain rfl := hw3.symm) | (go_at_call 21; refine (rEnd_c c (t.took o) _ _ (by first | exact H1 | exact H1.drewN _)).mono ?_; rintro e w4 ⟨rfl, m4, rfl⟩) | (go_at_call 17; refine (num_c _ _).mono ?_; rintro e w5 ⟨rfl, hw5⟩; obtain rfl := hw5.symm) | (go_at_call 32; refine (rrEnd_c d (t.took o) _ _ (by first | exact H1.swap | exact H1.swap.drewN _)).mono ?_; rintro e w6 ⟨rfl, hw6⟩; obtain rfl := hw6.symm))
            all_goals
              have HF := Holds.ord (l := [_, _, _, _, _, _, _]) H1 [2, 3, 4, 5, 6, 0, 1] rfl
              simp only [List.map, List.getD_cons_zero, List.getD_cons_succ, List.cons_append, List.nil_append] at HF
              clear r2 v2 x2 d0 d1 d2 d3 r1 v1 x0 c0 c1 c2 c3 HT
              go_wp2_with fail
              go_roundw
              case rel => exact ⟨j + 1, s, t.took o, by omega, by congr 1, by first | exact HF | exact HF.drewN _ | exact (HF.drewN _).drewN _, by first | exact Sr.drew.trans S1 | exact (Sr.drew.trans S1).drewN _ | exact ((Sr.drew.trans S1).drewN _).drewN _⟩
              case measure => (simp [intOf] <;> omega)
        · have hcase : j < l.length ∨ ¬ j < l.length := by omega
          rcases hcase with hjl | hjl
          all_goals
            go_wp2_with fail
            refine (works_c _ _ Hr).mono ?_
            rintro e w1 ⟨rfl, H1, S1⟩
            go_wp2_with fail
            refine bodyPost_ret (results_tmp rfl _ _ _) rfl ⟨rfl, H1.tail.tail.tail.tail.tail.tail.tail, Sr.trans S1⟩
    | k + 3, Hr => exact Hr.elim
end Go.Proofs.Ytngnfdlkkedaaaa
