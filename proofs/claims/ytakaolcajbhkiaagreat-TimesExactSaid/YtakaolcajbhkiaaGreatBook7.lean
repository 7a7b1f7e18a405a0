/- The laws' Book: plain (bytes, rows still hold). The laws' Book: kept (words, smalls still hold). The laws' Book: told (times still hold). -/
import Derived.Test.YtakaolcajbhkiaaGreatBook6
namespace Go.Proofs.YtakaolcajbhkiaaGreat
set_option linter.unusedVariables false
set_option linter.unusedSimpArgs false
open Go.RowKit Go.SL Go.Fm

set_option maxRecDepth 100000 in
set_option maxHeartbeats 8000000 in
theorem bkPlain_c (b T : Nat) (w : World) (F : List HProp) (H : Holds w (bookS b T :: F)) (hT : T ≤ 900000000000) :
    Calls Tryz.prog 49 #[.pointer (some ⟨b, 0, none⟩)] w (Ret w (.bool true) (bookS b T :: F)) := by
  obtain ⟨⟨bv_, bo_, ba_, wv_, wo_, wa_, sv_, so_, sa_, tv_, to__, ta_, turn_, done_, used_⟩, y, k1, k2, ok, H1⟩ := bookS_open H
  obtain ⟨l, hok, H2⟩ := kindS_open H1.swap
  simp only at H2
  obtain ⟨aL, cL, rfl⟩ := own_shape H2
  obtain ⟨aO, cO, rfl⟩ := own_shape H2.swap
  obtain ⟨x, hx⟩ : ∃ x : Bk, x = ⟨.slice aL y.b.length cL, .slice aO y.b.length cO, ba_, wv_, wo_, wa_, sv_, so_, sa_, tv_, to__, ta_, turn_, done_, used_⟩ := ⟨_, rfl⟩
  rw [← hx] at ok
  have H3 : Holds w (bkP b x :: own 57 1 (.slice aL y.b.length cL) y.b.length (y.b.map fun e => e.v) :: own 3 1 (.slice aO y.b.length cO) y.b.length (y.b.map fun e => .int .i64 (e.m : Nat)) :: rowsS 5 mkB l :: kW x y :: kS x y :: kT x y :: F) := by
    rw [hx]; exact Holds.ord (l := [_, _, _, _]) H2 [3, 0, 1, 2] rfl
  have hbv : x.bv = .slice aL y.b.length cL := by rw [hx]
  have hbo : x.bo = .slice aO y.b.length cO := by rw [hx]
  have hkc := ok.kb.cnt
  have hk := ok.cnt
  have hu := ok.used
  have hbnd : y.b.length ≤ 140000 := by omega
  have hln := ok.kb.len
  have hmk := ok.kb.mark
  clear H1 H2 hkc hk hu H
  replace hx := Lib.hid hx
  go_enter Tryz.func49, Tryz.ntmps49
  go_wp2
  go_loopw [3] (fun s3 wl => ∃ (k : Nat), k ≤ y.b.length ∧ s3 = .int .i64 k ∧ Holds wl (bkP b x :: own 57 1 (.slice aL y.b.length cL) y.b.length (y.b.map fun e => e.v) :: own 3 1 (.slice aO y.b.length cO) y.b.length (y.b.map fun e => .int .i64 (e.m : Nat)) :: rowsS 5 mkB l :: kW x y :: kS x y :: kT x y :: F) ∧ Str w wl) (fun s3 _ => (200000 - intOf s3).toNat)
  case atStart => exact ⟨0, by omega, rfl, H3, Str.refl w⟩
  case round =>
    clear H3
    obtain ⟨k, hk1, rfl, Hr, Sr⟩ := hrel
    have c0 := Hr.cell 0
    simp [bkCells, hbv] at c0
    by_cases hkn : k < y.b.length
    · obtain ⟨e, he⟩ : ∃ e, e = y.b[k] := ⟨_, rfl⟩
      have hmem : e ∈ y.b := by rw [he]; exact List.getElem_mem hkn
      have heok := hok e hmem
      have helen := hln e hmem
      have hem := hmk e hmem
      have hkl : (k : Int) < (y.b.length : Int) := by omega
      obtain ⟨ag, cg, hag⟩ := heok.shape
      obtain ⟨ev, en, em⟩ := e
      simp only at hag helen hem
      subst hag
      go_wp2_with fail
      go_loopw [4] (fun s4 wl => ∃ (i : Nat), i ≤ en ∧ s4 = .int .i64 i ∧ Holds wl (bkP b x :: own 57 1 (.slice aL y.b.length cL) y.b.length (y.b.map fun e => e.v) :: own 3 1 (.slice aO y.b.length cO) y.b.length (y.b.map fun e => .int .i64 (e.m : Nat)) :: rowsS 5 mkB l :: kW x y :: kS x y :: kT x y :: F) ∧ Str w wl) (fun s4 _ => ((en : Int) - intOf s4).toNat)
      case atStart => exact ⟨0, by omega, rfl, Hr, Sr⟩
      case round =>
        clear Hr Sr c0
        obtain ⟨i, hi, rfl, Hi, Si⟩ := hrel
        have c0 := Hi.cell 0
        have c1 := Hi.cell 1
        simp [bkCells, hbv, hbo] at c0 c1
        obtain ⟨gL, oL, capL, hvL, hcL, hcmL, hcellL⟩ := Hi.swap.own_is.at (by omega)
        obtain ⟨gO, oO, capO, hvO, hcO, hcmO, hcellO⟩ := Hi.pull2.own_is.at (by omega)
        simp only [Value.slice.injEq] at hvL hvO
        obtain ⟨rfl, _, rfl⟩ := hvL
        obtain ⟨rfl, _, rfl⟩ := hvO
        have dL := hcellL k (.slice ag en cg) (by simp [← he, hkn])
        have dO := hcellO k (.int .i64 (em : Nat)) (by simp [← he, hkn])
        replace he := Lib.hid he
        unfold maxLen at hcmL hcmO
        by_cases hin : i < en
        · have hiE : (i : Int) < (en : Int) := by omega
          obtain ⟨gE, oE, capE, hvE, hcE, hcmE, hcellE⟩ := (heok.is Hi.pull3).at (Nat.zero_lt_of_lt hin)
          simp only [Value.slice.injEq] at hvE
          obtain ⟨rfl, _, rfl⟩ := hvE
          have dE := hcellE i (mkB em i) (mks_get hin)
          unfold maxLen at hcmE
          simp only [mkB] at dE
          clear hcellL hcellO hcellE
          have hat := at_c em i (by omega)
          go_upto_region 7 with fail
          go_quiet (first | (go_at_call 37; exact Calls.quiet_of_same (hat _)) | fail)
          rename_i nq
          have Hi2 : Holds (wr.drewN nq) _ := Hi.drewN nq
          have Si2 := Si.drewN nq
          generalize wr.drewN nq = w2 at Hi2 Si2 ⊢
          go_wp2_with fail
          go_roundw
          case rel => exact ⟨i + 1, by omega, by congr 1, Hi2, Si2⟩
          case measure => (simp [intOf] <;> omega)
        · have hiE : ¬ (i : Int) < (en : Int) := by omega
          clear hcellL hcellO
          go_wp2_with fail
          go_roundw
          case rel => exact ⟨k + 1, by omega, by congr 1, Hi, Si⟩
          case measure => (simp [intOf] <;> omega)
    · have hkl : ¬ (k : Int) < (y.b.length : Int) := by omega
      have r0 := Hr.cell 3
      simp [bkCells] at r0
      go_wp2_with fail
      refine wp_loop_rounds 1 ?_
      rw [rounds_succ]
      go_wp2_with fail
      have H4 := Holds.ord (l := [_, _, _, _]) Hr [1, 2, 3, 0] rfl
      simp only [List.map, List.getD_cons_zero, List.getD_cons_succ, List.cons_append, List.nil_append] at H4
      rw [← hbv, ← hbo] at H4
      have H6 := kindS_shut hok H4
      go_ret
      exact ⟨rfl, bookS_shut ok H6.swap, Sr⟩
end Go.Proofs.YtakaolcajbhkiaaGreat

namespace Go.Proofs.YtakaolcajbhkiaaGreat
set_option linter.unusedVariables false
set_option linter.unusedSimpArgs false
open Go.RowKit Go.SL Go.Fm

set_option maxRecDepth 100000 in
set_option maxHeartbeats 16000000 in
theorem bkKept_c (b T : Nat) (w : World) (F : List HProp) (H : Holds w (bookS b T :: F)) (hT : T ≤ 900000000000) :
    Calls Tryz.prog 50 #[.pointer (some ⟨b, 0, none⟩)] w (Ret w (.bool true) (bookS b T :: F)) := by
  obtain ⟨x, y, k1, k2, ok, H1⟩ := bookS_open H
  have e6 := H1.cell 6
  have e9 := H1.cell 9
  simp [bkCells] at e6 e9
  go_enter Tryz.func50, Tryz.ntmps50
  go_wp2
  refine wp_loop_rounds 1 ?_
  rw [rounds_succ]
  go_wp2
  refine wp_loop_rounds 1 ?_
  rw [rounds_succ]
  go_wp2
  clear e6 e9 H
  have HA_w := Holds.ord (l := [_, _, _, _, _]) H1 [0, 2, 1, 3, 4] rfl
  simp only [List.map, List.getD_cons_zero, List.getD_cons_succ, List.cons_append, List.nil_append] at HA_w
  obtain ⟨l, hok, HB_w⟩ := kindS_open HA_w.swap
  obtain ⟨aL, cL, hbv⟩ := own_shape HB_w
  obtain ⟨aO, cO, hbo⟩ := own_shape HB_w.swap
  rw [hbv, hbo] at HB_w
  have HC_w := Holds.ord (l := [_, _, _, _]) HB_w [3, 0, 1, 2] rfl
  simp only [List.map, List.getD_cons_zero, List.getD_cons_succ, List.cons_append, List.nil_append] at HC_w
  clear HA_w HB_w
  have hkc := ok.kw.cnt
  have hk := ok.cnt
  have hu := ok.used
  have hbnd : y.w.length ≤ 140000 := by omega
  have hln := ok.kw.len
  have hmk := ok.kw.mark
  clear hkc hk hu
  go_loopw [7] (fun s3 wl => ∃ (k : Nat), k ≤ y.w.length ∧ s3 = .int .i64 k ∧ Holds wl (bkP b x :: own 120 1 (.slice aL y.w.length cL) y.w.length (y.w.map fun e => e.v) :: own 3 1 (.slice aO y.w.length cO) y.w.length (y.w.map fun e => .int .i64 (e.m : Nat)) :: rowsS 81 mkW l :: kB x y :: kS x y :: kT x y :: F) ∧ Str w wl) (fun s3 _ => (200000 - intOf s3).toNat)
  case atStart => exact ⟨0, by omega, rfl, HC_w, Str.refl w⟩
  case round =>
    clear HC_w
    obtain ⟨k, hk1, rfl, Hr, Sr⟩ := hrel
    have c0 := Hr.cell 12
    simp [bkCells, hbv] at c0
    by_cases hkn : k < y.w.length
    · obtain ⟨e, he⟩ : ∃ e, e = y.w[k] := ⟨_, rfl⟩
      have hmem : e ∈ y.w := by rw [he]; exact List.getElem_mem hkn
      have heok := hok e hmem
      have helen := hln e hmem
      have hem := hmk e hmem
      have hkl : (k : Int) < (y.w.length : Int) := by omega
      obtain ⟨ag, cg, hag⟩ := heok.shape
      obtain ⟨ev, en, em⟩ := e
      simp only at hag helen hem
      subst hag
      go_wp2_with fail
      go_loopw [8] (fun s4 wl => ∃ (i : Nat), i ≤ en ∧ s4 = .int .i64 i ∧ Holds wl (bkP b x :: own 120 1 (.slice aL y.w.length cL) y.w.length (y.w.map fun e => e.v) :: own 3 1 (.slice aO y.w.length cO) y.w.length (y.w.map fun e => .int .i64 (e.m : Nat)) :: rowsS 81 mkW l :: kB x y :: kS x y :: kT x y :: F) ∧ Str w wl) (fun s4 _ => ((en : Int) - intOf s4).toNat)
      case atStart => exact ⟨0, by omega, rfl, Hr, Sr⟩
      case round =>
        clear Hr Sr c0
        obtain ⟨i, hi, rfl, Hi, Si⟩ := hrel
        have c0 := Hi.cell 12
        have c1 := Hi.cell 13
        simp [bkCells, hbv, hbo] at c0 c1
        obtain ⟨gL, oL, capL, hvL, hcL, hcmL, hcellL⟩ := Hi.swap.own_is.at (by omega)
        obtain ⟨gO, oO, capO, hvO, hcO, hcmO, hcellO⟩ := Hi.pull2.own_is.at (by omega)
        simp only [Value.slice.injEq] at hvL hvO
        obtain ⟨rfl, _, rfl⟩ := hvL
        obtain ⟨rfl, _, rfl⟩ := hvO
        have dL := hcellL k (.slice ag en cg) (by simp [← he, hkn])
        have dO := hcellO k (.int .i64 (em : Nat)) (by simp [← he, hkn])
        replace he := Lib.hid he
        unfold maxLen at hcmL hcmO
        by_cases hin : i < en
        · have hiE : (i : Int) < (en : Int) := by omega
          obtain ⟨gE, oE, capE, hvE, hcE, hcmE, hcellE⟩ := (heok.is Hi.pull3).at (Nat.zero_lt_of_lt hin)
          simp only [Value.slice.injEq] at hvE
          obtain ⟨rfl, _, rfl⟩ := hvE
          have dE := hcellE i (mkW em i) (mks_get hin)
          unfold maxLen at hcmE
          simp only [mkW] at dE
          clear hcellL hcellO hcellE
          have hat := mkW_c em (by omega)
          go_upto_region 23 with fail
          go_quiet (first | (go_at_call 95; exact Calls.quiet_of_same (hat _)) | fail)
          rename_i nq
          have Hi2 : Holds (wr.drewN nq) _ := Hi.drewN nq
          have Si2 := Si.drewN nq
          generalize wr.drewN nq = w2 at Hi2 Si2 ⊢
          go_wp2_with fail
          go_roundw
          case rel => exact ⟨i + 1, by omega, by congr 1, Hi2, Si2⟩
          case measure => (simp [intOf] <;> omega)
        · have hiE : ¬ (i : Int) < (en : Int) := by omega
          clear hcellL hcellO
          go_wp2_with fail
          go_roundw
          case rel => exact ⟨k + 1, by omega, by congr 1, Hi, Si⟩
          case measure => (simp [intOf] <;> omega)
    · have hkl : ¬ (k : Int) < (y.w.length : Int) := by omega
      have HD_w := Holds.ord (l := [_, _, _, _]) Hr [1, 2, 3, 0] rfl
      simp only [List.map, List.getD_cons_zero, List.getD_cons_succ, List.cons_append, List.nil_append] at HD_w
      rw [← hbv, ← hbo] at HD_w
      have HE_w := kindS_shut hok HD_w
      have HF_w := Holds.ord (l := [_, _, _, _, _]) HE_w.swap [0, 2, 1, 3, 4] rfl
      simp only [List.map, List.getD_cons_zero, List.getD_cons_succ, List.cons_append, List.nil_append] at HF_w
      go_wp2_with fail
      clear c0 hbv hbo hok hln hmk hbnd hkl hkn hk1 Hr HD_w HE_w
      have HA_s := Holds.ord (l := [_, _, _, _, _]) HF_w [0, 3, 1, 2, 4] rfl
      simp only [List.map, List.getD_cons_zero, List.getD_cons_succ, List.cons_append, List.nil_append] at HA_s
      obtain ⟨l, hok, HB_s⟩ := kindS_open HA_s.swap
      obtain ⟨aL, cL, hbv⟩ := own_shape HB_s
      obtain ⟨aO, cO, hbo⟩ := own_shape HB_s.swap
      rw [hbv, hbo] at HB_s
      have HC_s := Holds.ord (l := [_, _, _, _]) HB_s [3, 0, 1, 2] rfl
      simp only [List.map, List.getD_cons_zero, List.getD_cons_succ, List.cons_append, List.nil_append] at HC_s
      clear HA_s HB_s
      have hkc := ok.ks.cnt
      have hk := ok.cnt
      have hu := ok.used
      have hbnd : y.s.length ≤ 140000 := by omega
      have hln := ok.ks.len
      have hmk := ok.ks.mark
      clear hkc hk hu
      go_loopw [9] (fun s3 wl => ∃ (k : Nat), k ≤ y.s.length ∧ s3 = .int .i64 k ∧ Holds wl (bkP b x :: own 121 1 (.slice aL y.s.length cL) y.s.length (y.s.map fun e => e.v) :: own 3 1 (.slice aO y.s.length cO) y.s.length (y.s.map fun e => .int .i64 (e.m : Nat)) :: rowsS 122 mkU l :: kB x y :: kW x y :: kT x y :: F) ∧ Str w wl) (fun s3 _ => (200000 - intOf s3).toNat)
      case atStart => exact ⟨0, by omega, rfl, HC_s, Sr⟩
      case round =>
        clear HC_s
        obtain ⟨k, hk1, rfl, Hr, Sr⟩ := hrel
        have c0 := Hr.cell 15
        simp [bkCells, hbv] at c0
        by_cases hkn : k < y.s.length
        · obtain ⟨e, he⟩ : ∃ e, e = y.s[k] := ⟨_, rfl⟩
          have hmem : e ∈ y.s := by rw [he]; exact List.getElem_mem hkn
          have heok := hok e hmem
          have helen := hln e hmem
          have hem := hmk e hmem
          have hkl : (k : Int) < (y.s.length : Int) := by omega
          obtain ⟨ag, cg, hag⟩ := heok.shape
          obtain ⟨ev, en, em⟩ := e
          simp only at hag helen hem
          subst hag
          go_wp2_with fail
          go_loopw [10] (fun s4 wl => ∃ (i : Nat), i ≤ en ∧ s4 = .int .i64 i ∧ Holds wl (bkP b x :: own 121 1 (.slice aL y.s.length cL) y.s.length (y.s.map fun e => e.v) :: own 3 1 (.slice aO y.s.length cO) y.s.length (y.s.map fun e => .int .i64 (e.m : Nat)) :: rowsS 122 mkU l :: kB x y :: kW x y :: kT x y :: F) ∧ Str w wl) (fun s4 _ => ((en : Int) - intOf s4).toNat)
          case atStart => exact ⟨0, by omega, rfl, Hr, Sr⟩
          case round =>
            clear Hr Sr c0
            obtain ⟨i, hi, rfl, Hi, Si⟩ := hrel
            have c0 := Hi.cell 15
            have c1 := Hi.cell 16
            simp [bkCells, hbv, hbo] at c0 c1
            obtain ⟨gL, oL, capL, hvL, hcL, hcmL, hcellL⟩ := Hi.swap.own_is.at (by omega)
            obtain ⟨gO, oO, capO, hvO, hcO, hcmO, hcellO⟩ := Hi.pull2.own_is.at (by omega)
            simp only [Value.slice.injEq] at hvL hvO
            obtain ⟨rfl, _, rfl⟩ := hvL
            obtain ⟨rfl, _, rfl⟩ := hvO
            have dL := hcellL k (.slice ag en cg) (by simp [← he, hkn])
            have dO := hcellO k (.int .i64 (em : Nat)) (by simp [← he, hkn])
            replace he := Lib.hid he
            unfold maxLen at hcmL hcmO
            by_cases hin : i < en
            · have hiE : (i : Int) < (en : Int) := by omega
              obtain ⟨gE, oE, capE, hvE, hcE, hcmE, hcellE⟩ := (heok.is Hi.pull3).at (Nat.zero_lt_of_lt hin)
              simp only [Value.slice.injEq] at hvE
              obtain ⟨rfl, _, rfl⟩ := hvE
              have dE := hcellE i (mkU em i) (mks_get hin)
              unfold maxLen at hcmE
              simp only [mkU] at dE
              clear hcellL hcellO hcellE
              have hat := mkU_c em (by omega)
              go_upto_region 31 with fail
              go_quiet (first | (go_at_call 96; exact Calls.quiet_of_same (hat _)) | fail)
              rename_i nq
              have Hi2 : Holds (wr.drewN nq) _ := Hi.drewN nq
              have Si2 := Si.drewN nq
              generalize wr.drewN nq = w2 at Hi2 Si2 ⊢
              go_wp2_with fail
              go_roundw
              case rel => exact ⟨i + 1, by omega, by congr 1, Hi2, Si2⟩
              case measure => (simp [intOf] <;> omega)
            · have hiE : ¬ (i : Int) < (en : Int) := by omega
              clear hcellL hcellO
              go_wp2_with fail
              go_roundw
              case rel => exact ⟨k + 1, by omega, by congr 1, Hi, Si⟩
              case measure => (simp [intOf] <;> omega)
        · have hkl : ¬ (k : Int) < (y.s.length : Int) := by omega
          have HD_s := Holds.ord (l := [_, _, _, _]) Hr [1, 2, 3, 0] rfl
          simp only [List.map, List.getD_cons_zero, List.getD_cons_succ, List.cons_append, List.nil_append] at HD_s
          rw [← hbv, ← hbo] at HD_s
          have HE_s := kindS_shut hok HD_s
          have HF_s := Holds.ord (l := [_, _, _, _, _]) HE_s.swap [0, 2, 3, 1, 4] rfl
          simp only [List.map, List.getD_cons_zero, List.getD_cons_succ, List.cons_append, List.nil_append] at HF_s
          go_wp2_with fail
          go_ret
          exact ⟨rfl, bookS_shut ok HF_s, Sr⟩
end Go.Proofs.YtakaolcajbhkiaaGreat

namespace Go.Proofs.YtakaolcajbhkiaaGreat
set_option linter.unusedVariables false
set_option linter.unusedSimpArgs false
open Go.RowKit Go.SL Go.Fm

set_option maxRecDepth 100000 in
set_option maxHeartbeats 16000000 in
theorem bkTold_c (b T : Nat) (w : World) (F : List HProp) (H : Holds w (bookS b T :: F)) (hT : T ≤ 900000000000) :
    Calls Tryz.prog 51 #[.pointer (some ⟨b, 0, none⟩)] w (Ret w (.bool true) (bookS b T :: F)) := by
  obtain ⟨x, y, k1, k2, ok, H1⟩ := bookS_open H
  go_enter Tryz.func51, Tryz.ntmps51
  go_wp2
  clear H
  have HA_t := Holds.ord (l := [_, _, _, _, _]) H1 [0, 4, 1, 2, 3] rfl
  simp only [List.map, List.getD_cons_zero, List.getD_cons_succ, List.cons_append, List.nil_append] at HA_t
  obtain ⟨l, hok, HB_t⟩ := kindS_open HA_t.swap
  obtain ⟨aL, cL, hbv⟩ := own_shape HB_t
  obtain ⟨aO, cO, hbo⟩ := own_shape HB_t.swap
  rw [hbv, hbo] at HB_t
  have HC_t := Holds.ord (l := [_, _, _, _]) HB_t [3, 0, 1, 2] rfl
  simp only [List.map, List.getD_cons_zero, List.getD_cons_succ, List.cons_append, List.nil_append] at HC_t
  clear HA_t HB_t
  have hkc := ok.kt.cnt
  have hk := ok.cnt
  have hu := ok.used
  have hbnd : y.t.length ≤ 140000 := by omega
  have hln := ok.kt.len
  have hmk := ok.kt.mark
  clear hkc hk hu
  go_loopw [3] (fun s3 wl => ∃ (k : Nat), k ≤ y.t.length ∧ s3 = .int .i64 k ∧ Holds wl (bkP b x :: own 54 1 (.slice aL y.t.length cL) y.t.length (y.t.map fun e => e.v) :: own 3 1 (.slice aO y.t.length cO) y.t.length (y.t.map fun e => .int .i64 (e.m : Nat)) :: rowsS 2 mkT l :: kB x y :: kW x y :: kS x y :: F) ∧ Str w wl) (fun s3 _ => (200000 - intOf s3).toNat)
  case atStart => exact ⟨0, by omega, rfl, HC_t, Str.refl w⟩
  case round =>
    clear HC_t
    obtain ⟨k, hk1, rfl, Hr, Sr⟩ := hrel
    have c0 := Hr.cell 18
    simp [bkCells, hbv] at c0
    by_cases hkn : k < y.t.length
    · obtain ⟨e, he⟩ : ∃ e, e = y.t[k] := ⟨_, rfl⟩
      have hmem : e ∈ y.t := by rw [he]; exact List.getElem_mem hkn
      have heok := hok e hmem
      have helen := hln e hmem
      have hem := hmk e hmem
      have hkl : (k : Int) < (y.t.length : Int) := by omega
      obtain ⟨ag, cg, hag⟩ := heok.shape
      obtain ⟨ev, en, em⟩ := e
      simp only at hag helen hem
      subst hag
      go_wp2_with fail
      go_loopw [4] (fun s4 wl => ∃ (i : Nat), i ≤ en ∧ s4 = .int .i64 i ∧ Holds wl (bkP b x :: own 54 1 (.slice aL y.t.length cL) y.t.length (y.t.map fun e => e.v) :: own 3 1 (.slice aO y.t.length cO) y.t.length (y.t.map fun e => .int .i64 (e.m : Nat)) :: rowsS 2 mkT l :: kB x y :: kW x y :: kS x y :: F) ∧ Str w wl) (fun s4 _ => ((en : Int) - intOf s4).toNat)
      case atStart => exact ⟨0, by omega, rfl, Hr, Sr⟩
      case round =>
        clear Hr Sr c0
        obtain ⟨i, hi, rfl, Hi, Si⟩ := hrel
        have c0 := Hi.cell 18
        have c1 := Hi.cell 19
        simp [bkCells, hbv, hbo] at c0 c1
        obtain ⟨gL, oL, capL, hvL, hcL, hcmL, hcellL⟩ := Hi.swap.own_is.at (by omega)
        obtain ⟨gO, oO, capO, hvO, hcO, hcmO, hcellO⟩ := Hi.pull2.own_is.at (by omega)
        simp only [Value.slice.injEq] at hvL hvO
        obtain ⟨rfl, _, rfl⟩ := hvL
        obtain ⟨rfl, _, rfl⟩ := hvO
        have dL := hcellL k (.slice ag en cg) (by simp [← he, hkn])
        have dO := hcellO k (.int .i64 (em : Nat)) (by simp [← he, hkn])
        replace he := Lib.hid he
        unfold maxLen at hcmL hcmO
        by_cases hin : i < en
        · have hiE : (i : Int) < (en : Int) := by omega
          obtain ⟨gE, oE, capE, hvE, hcE, hcmE, hcellE⟩ := (heok.is Hi.pull3).at (Nat.zero_lt_of_lt hin)
          simp only [Value.slice.injEq] at hvE
          obtain ⟨rfl, _, rfl⟩ := hvE
          have dE := hcellE i (mkT em i) (mks_get hin)
          unfold maxLen at hcmE
          simp only [mkT] at dE
          clear hcellL hcellO hcellE
          have hat := mkT_c em (by omega)
          go_upto_region 7 with fail
          go_quiet (first | (go_at_call 48; exact Calls.quiet_of_same (hat _)) | fail)
          rename_i nq
          have Hi2 : Holds (wr.drewN nq) _ := Hi.drewN nq
          have Si2 := Si.drewN nq
          generalize wr.drewN nq = w2 at Hi2 Si2 ⊢
          go_wp2_with fail
          go_roundw
          case rel => exact ⟨i + 1, by omega, by congr 1, Hi2, Si2⟩
          case measure => (simp [intOf] <;> omega)
        · have hiE : ¬ (i : Int) < (en : Int) := by omega
          clear hcellL hcellO
          go_wp2_with fail
          go_roundw
          case rel => exact ⟨k + 1, by omega, by congr 1, Hi, Si⟩
          case measure => (simp [intOf] <;> omega)
    · have hkl : ¬ (k : Int) < (y.t.length : Int) := by omega
      have HD_t := Holds.ord (l := [_, _, _, _]) Hr [1, 2, 3, 0] rfl
      simp only [List.map, List.getD_cons_zero, List.getD_cons_succ, List.cons_append, List.nil_append] at HD_t
      rw [← hbv, ← hbo] at HD_t
      have HE_t := kindS_shut hok HD_t
      have HF_t := Holds.ord (l := [_, _, _, _, _]) HE_t.swap [0, 2, 3, 4, 1] rfl
      simp only [List.map, List.getD_cons_zero, List.getD_cons_succ, List.cons_append, List.nil_append] at HF_t
      have e21 := HF_t.cell 21
      have e24 := HF_t.cell 24
      have e27 := HF_t.cell 27
      simp [bkCells] at e21 e24 e27
      go_wp2_with fail
      refine wp_loop_rounds 1 ?_
      rw [rounds_succ]
      go_wp2_with fail
      refine wp_loop_rounds 1 ?_
      rw [rounds_succ]
      go_wp2_with fail
      refine wp_loop_rounds 1 ?_
      rw [rounds_succ]
      go_wp2_with fail
      go_ret
      exact ⟨rfl, bookS_shut ok HF_t, Sr⟩
end Go.Proofs.YtakaolcajbhkiaaGreat
