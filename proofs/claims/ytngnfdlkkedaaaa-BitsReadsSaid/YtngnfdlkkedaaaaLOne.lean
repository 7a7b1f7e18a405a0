/- The law BitsOne, walked. -/
import Derived.Test.YtngnfdlkkedaaaaOne
import Derived.Test.YtngnfdlkkedaaaaLW
import Derived.Test.YtngnfdlkkedaaaaLReads
import Derived.Deep.RegionWith
import Derived.BigQuiet
import Derived.WalkSpells
namespace Go.Proofs.Ytngnfdlkkedaaaa
open Go.RowKit Go.SL Go.Fm
set_option linter.unusedVariables false
set_option linter.unusedSimpArgs false

theorem ops_cellsB {w : World} {g off n c : Nat} {l : List OpD} {k : Nat} (h : SliceIs w 4 (.slice (some ⟨g, off, none⟩) n c) l.length (opsv l)) (hk : k < l.length) :
    w.cell? ⟨g, off + k * 4, none⟩ = some (.int .i64 l[k].d) ∧ w.cell? ⟨g, off + k * 4 + 1, none⟩ = some (.int .i64 l[k].on) ∧
      w.cell? ⟨g, off + k * 4 + 2, none⟩ = some (.int .u64 l[k].x) ∧ w.cell? ⟨g, off + k * 4 + 3, none⟩ = some (.int .i64 l[k].n) := by
  obtain ⟨g', off', c', hv, _, _, h0, h1, h2, h3⟩ := ops_cells h hk
  simp only [Value.slice.injEq, Option.some.injEq, Addr.mk.injEq] at hv
  obtain ⟨⟨rfl, rfl, _⟩, _, _⟩ := hv
  exact ⟨h0, h1, h2, h3⟩

theorem slice_shape {w : World} {s n : Nat} {v : Value} {xs : List Value} (h : SliceIs w s v n xs) : ∃ a c, v = .slice a n c := by
  rcases h.2 with ⟨h, h'⟩ | ⟨a, c, h, _⟩
  · rw [h, h']; exact ⟨_, _, rfl⟩
  · exact ⟨_, _, h⟩

theorem lt_u64o {n : Nat} (h : n < 18446744073709551616) : (n : Int) < 18446744073709551616 := by omega
theorem zig_range (r : Rs) : -9223372036854775808 ≤ r.zig.1 ∧ r.zig.1 ≤ 9223372036854775807 := by
  have h := var_lt r
  show -9223372036854775808 ≤ unzig r.var.1 ∧ unzig r.var.1 ≤ 9223372036854775807
  unfold unzig
  split <;> omega

set_option maxRecDepth 100000 in
set_option maxHeartbeats 4000000 in
theorem BitsOne_c (v0 v1 v2 : Value) (A B : List Nat) (l : List OpD) (w : World) (F : List HProp) (H : Holds w F) (hA : ∀ x ∈ A, x < 256) (hB : ∀ x ∈ B, x < 256) (hl : ∀ o ∈ l, o.ok)
    (hs0 : Sees F 1 v0 A.length (bv A)) (hs1 : Sees F 1 v1 B.length (bv B)) (hs2 : Sees F 4 v2 l.length (opsv l)) :
    Calls Try.prog 8 #[.agg #[v0, v1, v2]] w (Ret w (.bool true) F) := by
  obtain ⟨a0, k0, rfl⟩ := slice_shape (hs0 w H)
  obtain ⟨a1, k1, rfl⟩ := slice_shape (hs1 w H)
  obtain ⟨a2, k2, rfl⟩ := slice_shape (hs2 w H)
  have HB := H.alloc (.cells #[.slice a0 A.length k0, .slice a1 B.length k1, .slice a2 l.length k2] 89)
  go_enter Try.func8, Try.ntmps8
  go_wp2
  go_loopw [3] (fun s3 wr => ∃ (k : Nat), k ≤ 2 ∧ s3 = .int .i64 k ∧ Holds wr (pts w.heap.size (.cells #[.slice a0 A.length k0, .slice a1 B.length k1, .slice a2 l.length k2] 89 (0, 0)) :: F) ∧ Str w wr) (fun s3 _ => (10 - intOf s3).toNat)
  case atStart => exact ⟨0, by omega, rfl, HB, (Str.refl w).alloc _⟩
  case round =>
    obtain ⟨k, hk2, rfl, Hr, Sr⟩ := hrel
    by_cases hk : k < 2
    · obtain ⟨a, c, C, hC, hsC, hcell⟩ : ∃ a c C, (∀ x ∈ C, x < 256) ∧ Sees F 1 (.slice a C.length c) C.length (bv C) ∧ (#[.slice a0 A.length k0, .slice a1 B.length k1, .slice a2 l.length k2] : Array Value)[k]? = some (.slice a C.length c) := by
        match k, hk with
        | 0, _ => exact ⟨a0, k0, A, hA, hs0, rfl⟩
        | 1, _ => exact ⟨a1, k1, B, hB, hs1, rfl⟩
      have hcellw := (Hr.cell k).trans hcell
      replace hcell := Lib.hid hcell
      by_cases hC64 : 65536 < C.length
      · go_wp2_with fail
        refine (works_c _ _ Hr).mono ?_
        rintro e w1 ⟨rfl, H1, S1⟩
        go_wp2_with fail
        refine bodyPost_ret (results_tmp rfl _ _ _) rfl ⟨rfl, H1.tail, Sr.trans S1⟩
      · go_wp2_with fail
        refine (From_c _ C _ _ Hr (hsC _ Hr.tail) hC (by omega)).mono ?_
        rintro e w5 ⟨rb, rfl, H5, S5⟩
        go_wp2_with fail
        have HW := new_writer H5
        go_loopw [6, 7] (fun s6 _ wl => ∃ (j : Nat) (r : Rs) (st : Ws), j ≤ 400 ∧ s6 = .int .i64 j ∧ st.L.length ≤ 80 * j ∧ One (unpack C) r st ∧
          Holds wl (wS w5.heap.size st :: rS rb r :: pts w.heap.size (.cells #[.slice a0 A.length k0, .slice a1 B.length k1, .slice a2 l.length k2] 89 (0, 0)) :: F) ∧ Str w wl) (fun s6 _ _ => (1000 - intOf s6).toNat)
        case atStart => exact ⟨0, _, _, by omega, rfl, by simp, ⟨rfl, fun _ => rfl⟩, HW, (Sr.trans S5).alloc _⟩
        case round =>
          clear HW H5 S5 Hr Sr
          obtain ⟨j, r, st, hj4, rfl, hLj, hOne, Hr, Sr⟩ := hrel
          replace hOne := Lib.hid hOne
          have cb0 := Hr.tail.tail.cell 2
          simp at cb0
          by_cases hjn : j < l.length ∧ j < 400
          · obtain ⟨hjn, hj400⟩ := hjn
            obtain ⟨g, off, cap, hv, hcap, hcm, c0, c1, c2, c3⟩ := ops_cells (hs2 _ Hr.tail.tail.tail) hjn
            obtain ⟨⟨hd1, hd2⟩, ⟨ho1, ho2⟩, hox, ⟨hn1, hn2⟩⟩ := hl _ (List.getElem_mem hjn)
            have hcap' := hcm
            unfold maxLen at hcap'
            simp only [Value.slice.injEq] at hv
            obtain ⟨rfl, _, rfl⟩ := hv
            obtain ⟨o, ho⟩ : ∃ o, o = l[j] := ⟨_, rfl⟩
            rw [← ho] at c0 c1 c2 c3 hd1 hd2 ho1 ho2 hox hn1 hn2
            replace ho := Lib.hid ho
            obtain ⟨d, on, x, n⟩ := o
            simp only at c0 c1 c2 c3 hd1 hd2 ho1 ho2 hox hn1 hn2
            have HO := Hr.alloc (.cells #[.int .i64 d, .int .i64 on, .int .u64 x, .int .i64 n] 37)
            have hst := hOne.out.step ⟨d, on, x, n⟩
            have hln := oneW_len r st ⟨d, on, x, n⟩
            unfold oneR oneW at hst
            unfold oneW at hln
            simp only at hst hln
            by_cases h1 : d = 1
            · subst h1
              simp only [reduceIte, Int.reduceEq] at hst hln
              replace hst := Lib.hid hst
              go_wp2_with fail
              refine (rBit_c rb r _ _ HO.pull2).mono ?_
              rintro e w1 ⟨rfl, H1, S1⟩
              go_wp2_with fail
              refine (wBit_c _ r.bit.1 st _ _ H1.pull2 (by omega)).mono ?_
              rintro e w2 ⟨rfl, H2, S2⟩
              go_wp2_with fail
              go_roundw
              case rel => exact ⟨j + 1, _, _, by omega, by congr 1, by omega, hst.out, H2.pull2.tail, ((Sr.alloc _).trans S1).trans S2⟩
              case measure => (simp [intOf] <;> omega)
            by_cases h2 : d = 2
            · subst h2
              simp only [reduceIte, Int.reduceEq] at hst hln
              by_cases hn : 0 ≤ n ∧ n ≤ 64
              · rw [if_pos hn] at hst hln
                rw [if_pos hn] at hst
                replace hst := Lib.hid hst
                obtain ⟨hn3, hn4⟩ := hn
                obtain ⟨m, rfl⟩ := Int.eq_ofNat_of_zero_le hn3
                have hv := bits_lt64 r m (by omega)
                replace hv := Lib.hid hv
                go_upto_region 19 with fail
                have e3 := HO.cell 3
                simp at e3
                go_region_with (first | (go_at_call 19; refine (rBits_c rb _ r _ _ HO.drew.pull2).mono ?_; rintro e w1 ⟨rfl, H1, S1⟩; have d3 := H1.swap.cell 3; simp at d3) | (go_at_call 14; refine (wBits_c _ _ _ st _ _ H1.pull2 (Int.natCast_nonneg _) (lt_u64o hv.out) (by omega)).mono ?_; rw [Int.toNat_natCast]; rintro e w2 ⟨rfl, H2, S2⟩) | fail)
                all_goals
                  go_wp2_with fail
                  go_roundw
                  case rel => exact ⟨j + 1, _, _, by omega, by congr 1, by omega, hst.out, H2.pull2.tail, ((Sr.alloc _).drew.trans S1).trans S2⟩
                  case measure => (simp [intOf] <;> omega)
              · rw [if_neg hn] at hst hln
                rw [if_neg hn] at hst
                replace hst := Lib.hid hst
                by_cases hn3 : 0 ≤ n
                · have hn4 : ¬ n ≤ 64 := fun h => hn ⟨hn3, h⟩
                  go_wp2_with fail
                  go_roundw
                  case rel => exact ⟨j + 1, _, _, by omega, by congr 1, by omega, hst.out, HO.tail, Sr.alloc _⟩
                  case measure => (simp [intOf] <;> omega)
                · go_wp2_with fail
                  go_roundw
                  case rel => exact ⟨j + 1, _, _, by omega, by congr 1, by omega, hst.out, HO.tail, Sr.alloc _⟩
                  case measure => (simp [intOf] <;> omega)
            by_cases h3 : d = 3
            · subst h3
              simp only [reduceIte, Int.reduceEq] at hst hln
              replace hst := Lib.hid hst
              go_wp2_with fail
              refine (rUnary_c rb r _ _ HO.pull2).mono ?_
              rintro e w1 ⟨rfl, H1, S1⟩
              go_wp2_with fail
              refine (wUnary_c _ (r.unary.1 : Int) st _ _ H1.pull2 (by omega)).mono ?_
              rintro e w2 ⟨rfl, H2, S2⟩
              go_wp2_with fail
              go_roundw
              case rel => exact ⟨j + 1, _, _, by omega, by congr 1, by omega, hst.out, H2.pull2.tail, ((Sr.alloc _).trans S1).trans S2⟩
              case measure => (simp [intOf] <;> omega)
            by_cases h4 : d = 4
            · subst h4
              simp only [reduceIte, Int.reduceEq] at hst hln
              replace hst := Lib.hid hst
              go_wp2_with fail
              refine (rVar_c rb r _ _ HO.pull2).mono ?_
              rintro e w1 ⟨rfl, H1, S1⟩
              go_wp2_with fail
              refine (wVar_c _ r.var.1 st _ _ H1.pull2 (var_lt r) (by omega)).mono ?_
              rintro e w2 ⟨rfl, H2, S2⟩
              go_wp2_with fail
              go_roundw
              case rel => exact ⟨j + 1, _, _, by omega, by congr 1, by omega, hst.out, H2.pull2.tail, ((Sr.alloc _).trans S1).trans S2⟩
              case measure => (simp [intOf] <;> omega)
            by_cases h5 : d = 5
            · subst h5
              simp only [reduceIte, Int.reduceEq] at hst hln
              replace hst := Lib.hid hst
              go_wp2_with fail
              refine (rZig_c rb r _ _ HO.pull2).mono ?_
              rintro e w1 ⟨rfl, H1, S1⟩
              go_wp2_with fail
              refine (wZig_c _ r.zig.1 st _ _ H1.pull2 (zig_range r).1 (zig_range r).2 (by omega)).mono ?_
              rintro e w2 ⟨rfl, H2, S2⟩
              go_wp2_with fail
              go_roundw
              case rel => exact ⟨j + 1, _, _, by omega, by congr 1, by omega, hst.out, H2.pull2.tail, ((Sr.alloc _).trans S1).trans S2⟩
              case measure => (simp [intOf] <;> omega)
            simp only [h1, h2, h3, h4, h5, if_false] at hst hln
            replace hst := Lib.hid hst
            go_wp2_with fail
            go_roundw
            case rel => exact ⟨j + 1, _, _, by omega, by congr 1, by omega, hst.out, HO.tail, Sr.alloc _⟩
            case measure => (simp [intOf] <;> omega)
          · have hOne2 := hOne.out
            have hcase : j < l.length ∨ ¬ j < l.length := by omega
            rcases hcase with hjl | hjl
            all_goals
              go_wp2_with fail
              refine (wDone_ok _ _ _ _ Hr hOne2.1 (by omega)).mono ?_
              rintro e w1 ⟨va, rfl, H1, S1⟩
              have kE := fun n => rEnd_c rb r (w1.drewN n) _ (H1.pull2.drewN n)
              obtain ⟨ab, cb, rfl⟩ := own_shape H1
              by_cases hE : r.end_ = 0
              · have hpk := hOne2.last hC hE
                rw [hpk] at H1
                rw [hpk]
                simp only [hE] at kE
                replace kE := Lib.hid kE
                replace hpk := Lib.hid hpk
                have q1 := fun n => conv_str (P := Try.prog) Try.underlying25 Try.underlying5 Try.underlying9 (H1.drewN n).own_is
                have q2 := fun n => conv_str (P := Try.prog) Try.underlying25 Try.underlying5 Try.underlying9 ((hsC _ H1.tail.tail.tail.tail) : SliceIs (w1.drewN n) 1 _ _ _)
                have b1 : w1.cell? ⟨w.heap.size, k, none⟩ = some (.slice a C.length c) := by
                  exact (H1.pull3.cell k).trans hcell.out
                go_upto_region 27 with fail
                go_quiet (first | (go_at_call 17; exact num_q _ _ _) | (go_at_call 21; exact Calls.quiet_of (kE.out _)))
                go_wp2_with fail
                go_roundw
                case rel => exact ⟨k + 1, by omega, by congr 1, H1.tail.tail.tail.drewN _, (Sr.trans S1).drewN _⟩
                case measure => (simp [intOf] <;> omega)
              · obtain ⟨E, hEr⟩ : ∃ E, E = r.end_ := ⟨_, rfl⟩
                rw [← hEr] at kE hE
                have hE0 : ((E : Int) == 0) = false := by simp; omega
                replace kE := Lib.hid kE
                replace hEr := Lib.hid hEr
                go_upto_region 27 with fail
                go_quiet (first | (go_at_call 17; exact num_q _ _ _) | (go_at_call 21; exact Calls.quiet_of (kE.out _)))
                go_wp2_with fail
                go_roundw
                case rel => exact ⟨k + 1, by omega, by congr 1, H1.tail.tail.tail.drewN _, (Sr.trans S1).drewN _⟩
                case measure => (simp [intOf] <;> omega)
    · go_wp2_with fail
      refine (works_c _ _ Hr).mono ?_
      rintro e w1 ⟨rfl, H1, S1⟩
      go_wp2_with fail
      refine bodyPost_ret (results_tmp rfl _ _ _) rfl ⟨rfl, H1.tail, Sr.trans S1⟩
end Go.Proofs.Ytngnfdlkkedaaaa
