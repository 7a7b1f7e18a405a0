/- The laws' Book: growWords. The laws' Book: growSmalls. The laws' Book: growTimes. -/
import Derived.Test.YtakaolcajbhkiaaGreatBook4
namespace Go.Proofs.YtakaolcajbhkiaaGreat
set_option linter.unusedVariables false
set_option linter.unusedSimpArgs false
open Go.RowKit Go.SL Go.Fm

theorem info_elW : (Tryz.prog.info? 120).map (fun i => (i.zero, i.size, i.bytes)) = some (some (.slice none 0 0), 1, 24) := by kernel_rfl
theorem info_EW : (Tryz.prog.info? 81).map (fun i => (i.zero, i.size, i.bytes)) = some (some (.int .u64 0), 1, 8) := by kernel_rfl
theorem mkW_c (m : Nat) (hm : m ≤ 1000000000000) (w : World) : Calls Tryz.prog 95 #[.int .i64 m] w (fun e w' => e = .returned (.int .u64 (((m * 1048576 % 18446744073709551616 : Nat) : Int))) ∧ w' = w) := by
  go_enter Tryz.func95, Tryz.ntmps95
  go_wp2
  go_ret
  refine ⟨ret_int ?_, rfl⟩
  first | omega | (simp [IntKind.wrap, IntKind.bits, IntKind.signed]; omega)
abbrev bkGW (b : Nat) (x : Bk) (es : List En) (aL aO : Option Addr) (cL cO : Nat) (l : List Rw) (y : BkL) (F : List HProp) : List HProp :=
  bkP b { x with wv := .slice aL es.length cL, wo := .slice aO es.length cO } :: own 120 1 (.slice aL es.length cL) es.length (es.map fun e => e.v) ::
    own 3 1 (.slice aO es.length cO) es.length (es.map fun e => .int .i64 (e.m : Nat)) :: rowsS 81 mkW l :: kB x y :: kS x y :: kT x y :: F

set_option maxRecDepth 100000 in
set_option maxHeartbeats 8000000 in
theorem growWords_c (b T : Nat) (w : World) (F : List HProp) (H : Holds w (bookS b T :: F)) (hT : T ≤ 900000000000) :
    Calls Tryz.prog 60 #[.pointer (some ⟨b, 0, none⟩)] w (Ret w (.tuple #[]) (bookS b T :: F)) := by
  obtain ⟨iB, hBj, hBy0, hBy1, hBy2⟩ := info_parts info_elW
  obtain ⟨iI, hIj, hIy0, hIy1, hIy2⟩ := info_parts info_int
  obtain ⟨i8, h8j, h8y0, h8y1, h8y2⟩ := info_parts info_EW
  obtain ⟨⟨bv_, bo_, ba_, wv_, wo_, wa_, sv_, so_, sa_, tv_, to__, ta_, turn_, done_, used_⟩, y, k1, k2, ok, H1⟩ := bookS_open H
  obtain ⟨l0, hok0, H2⟩ := kindS_open (Holds.ord (l := [_, _, _]) H1 [2, 0, 1] rfl)
  simp only at H2
  obtain ⟨aL0, cL0, rfl⟩ := own_shape H2
  obtain ⟨aO0, cO0, rfl⟩ := own_shape H2.swap
  obtain ⟨x, hx⟩ : ∃ x : Bk, x = ⟨bv_, bo_, ba_, .slice aL0 y.w.length cL0, .slice aO0 y.w.length cO0, wa_, sv_, so_, sa_, tv_, to__, ta_, turn_, done_, used_⟩ := ⟨_, rfl⟩
  rw [← hx] at ok
  have H3 : Holds w (bkGW b x y.w aL0 aO0 cL0 cO0 l0 y F) := by rw [hx]; exact Holds.ord (l := [_, _, _, _]) H2 [3, 0, 1, 2] rfl
  have hG0 : GrowOk T y.w l0 := ⟨hok0, ok.kw.len, ok.kw.mark⟩
  have hkc := ok.kw.cnt
  have hka := ok.kw.at_le
  have hk := ok.cnt
  have hu := ok.used
  have hbnd : y.w.length + 5 * (y.w.length - x.wa) ≤ 140000 := by omega
  clear H1 H2 hok0
  replace hx := Lib.hid hx
  replace hG0 := Lib.hid hG0
  clear hkc hk hu
  have c0 := H3.cell 12
  have c2 := H3.cell 14
  simp [bkCells] at c0 c2
  go_enter Tryz.func60, Tryz.ntmps60
  go_wp2
  go_loopw [3] (fun s3 wl => ∃ (k : Nat) (ext : List En) (aL aO : Option Addr) (cL cO : Nat) (l : List Rw), x.wa ≤ k ∧ k ≤ y.w.length ∧ s3 = .int .i64 k ∧ ext.length = 5 * (k - x.wa) ∧ GrowOk T (y.w ++ ext) l ∧ Holds wl (bkGW b x (y.w ++ ext) aL aO cL cO l y F) ∧ Str w wl) (fun s3 _ => (200000 - intOf s3).toNat)
  case atStart => exact ⟨x.wa, [], aL0, aO0, cL0, cO0, l0, by omega, hka, rfl, by simp, by rw [List.append_nil]; exact hG0.out, by rw [List.append_nil]; exact H3, Str.refl w⟩
  case round =>
    clear H3 c0 c2 hG0 H
    obtain ⟨k, ext, aL, aO, cL, cO, l, hk1', hk2', rfl, hext, hG, Hr, Sr⟩ := hrel
    obtain ⟨es, hes⟩ : ∃ es, es = y.w ++ ext := ⟨_, rfl⟩
    have hesl : es.length = y.w.length + 5 * (k - x.wa) := by rw [hes, List.length_append, hext]
    rw [← hes] at hG Hr
    replace hG := Lib.hid hG
    replace hes := Lib.hid hes
    replace hext := Lib.hid hext
    have c0 := Hr.cell 12
    have c1 := Hr.cell 13
    simp [bkCells] at c0 c1
    by_cases hkn : k < y.w.length
    · have hke : k < es.length := by omega
      obtain ⟨e, he⟩ : ∃ e, e = es[k] := ⟨_, rfl⟩
      have hmem : e ∈ es := by rw [he]; exact List.getElem_mem hke
      have heok := hG.out.ok e hmem
      have helen := hG.out.len e hmem
      have hem := hG.out.mark e hmem
      obtain ⟨gL, oL, capL, hvL, hcL, hcmL, hcellL⟩ := Hr.swap.own_is.at (by omega)
      obtain ⟨gO, oO, capO, hvO, hcO, hcmO, hcellO⟩ := Hr.pull2.own_is.at (by omega)
      simp only [Value.slice.injEq] at hvL hvO
      obtain ⟨rfl, _, rfl⟩ := hvL
      obtain ⟨rfl, _, rfl⟩ := hvO
      have dL := hcellL k e.v (by simp [he, hke])
      have dO := hcellO k (.int .i64 (e.m : Nat)) (by simp [he, hke])
      obtain ⟨ag, cg, hag⟩ := heok.shape
      rw [hag] at dL
      replace he := Lib.hid he
      replace heok := Lib.hid heok
      replace hag := Lib.hid hag
      replace hesl := Lib.hid hesl
      clear hcellL hcellO hmem
      unfold maxLen at hcmL hcmO
      have hesb : es.length ≤ 140000 := by have := hesl.out; omega
      have hkl : (k : Int) < (es.length : Int) := by omega
      go_wp2_with fail
      go_loopw [4, 6] (fun s4 s6 wl => ∃ (i : Nat) (app : List En) (agi : Option Addr) (cgi : Nat) (aL aO : Option Addr) (cL cO : Nat) (li : List Rw), 1 ≤ i ∧ i ≤ 33 ∧ s4 = .slice agi (e.n + (i - 1)) cgi ∧ s6 = .int .i64 i ∧ app.length = keptN i ∧ GrowOk T (es ++ app) li ∧
        EnOk li ⟨.slice agi (e.n + (i - 1)) cgi, e.n + (i - 1), e.m⟩ ∧ Holds wl (bkGW b x (es ++ app) aL aO cL cO li y F) ∧ Str w wl) (fun _ s6 _ => (200 - intOf s6).toNat)
      case atStart => exact ⟨1, [], ag, cg, _, _, _, _, l, by omega, by omega, rfl, rfl, rfl, by rw [List.append_nil]; exact hG.out, by have := heok.out; have h2 := hag.out; rw [Nat.sub_self, Nat.add_zero, ← h2]; exact this, by rw [List.append_nil]; exact Hr, Sr⟩
      case round =>
        clear Hr Sr c0 c1 dL dO
        obtain ⟨i, app, agi, cgi, aL, aO, cL, cO, li, hi1, hi2, rfl, rfl, happ, hGi, hen, Hi, Si⟩ := hrel
        replace happ := Lib.hid happ
        replace hGi := Lib.hid hGi
        replace hen := Lib.hid hen
        obtain ⟨es2, hes2⟩ : ∃ es2, es2 = es ++ app := ⟨_, rfl⟩
        have hes2l : es2.length ≤ 150000 := by rw [hes2, List.length_append]; have := happ.out; have := keptN_le i (by omega); omega
        have hes2ge : es.length ≤ es2.length := by rw [hes2, List.length_append]; omega
        rw [← hes2] at Hi
        replace hes2 := Lib.hid hes2
        by_cases hi33 : i ≤ 32
        · have hat := mkW_c e.m (by omega)
          have HR := Holds.ord (l := [_, _, _, _]) Hi [3, 0, 1, 2] rfl
          simp only [List.map, List.getD_cons_zero, List.getD_cons_succ, List.cons_append, List.nil_append] at HR
          by_cases hi4 : i < 4
          · have hsv : i < 4 ∨ i % 16 = 0 := .inl hi4
            have hi4' : (i : Int) < 4 := by omega
            replace hsv := Lib.hid hsv
            go_upto_region 11 with (first | (go_at_call 95; refine (hat _).mono ?_; rintro e' w' ⟨rfl, hw'⟩; obtain rfl := hw'.symm) | (at_builtin; refine wpList_append_en (e := ⟨.slice agi (e.n + (i - 1)) cgi, e.n + (i - 1), e.m⟩) (mk := mkW) (l := li) rfl _ _ _ rfl i8 (.int .u64 0) Tryz.underlying120 h8j h8y0 h8y1 h8y2 rfl rfl (x := .slice (some ⟨wr.heap.size, 0, none⟩) 1 1) rfl (HR.alloc' _) hen.out (slice_new wr #[mkW e.m (e.n + (i - 1))] _ _ 1 1 rfl (by decide)) rfl (by simp only []; omega) (by unfold maxLen; simp only []; omega) ?_; intro vn ln wn Hn hle hen2 Sn; obtain ⟨an, cn, hvn⟩ := hen2.shape; simp only at hvn hen2; subst hvn; have c0n := Hn.swap.cell 12; simp [bkCells] at c0n))
            replace hsv := hsv.out
            have hsnoc : (es ++ (app ++ [⟨.slice an (e.n + (i - 1) + 1) cn, e.n + (i - 1) + 1, e.m⟩])) = es2 ++ [⟨.slice an (e.n + (i - 1) + 1) cn, e.n + (i - 1) + 1, e.m⟩] := by rw [hes2.out, List.append_assoc]
            have hGi2 : GrowOk T es2 ln := by rw [hes2.out]; exact hGi.out.rows hle
            replace hGi2 := Lib.hid hGi2
            replace hsnoc := Lib.hid hsnoc
            have H7 := Holds.ord (l := [_, _, _, _]) Hn [2, 3, 0, 1] rfl
            simp only [List.map, List.getD_cons_zero, List.getD_cons_succ, List.cons_append, List.nil_append] at H7
            go_upto_region 12 with (at_builtin; refine wpList_append_sl rfl _ _ _ rfl iB (.slice none 0 0) Tryz.underlying31 hBj hBy0 hBy1 hBy2 rfl (by decide) rfl (x := .slice (some ⟨wn.heap.size, 0, none⟩) 1 1) rfl (H7.alloc' _) (m := 1) (news := [.slice an (e.n + (i - 1) + 1) cn]) (slice_new wn _ _ _ 1 1 rfl (by decide)) (by simp [Value.oneCell']) (by omega) (by unfold maxLen; omega) ?_; intro v8 w8 H8 S8; obtain ⟨a8, k8, rfl⟩ := own_shape H8; have d0 := H8.pull3.cell 12; have e0 := H8.pull3.free 12; simp [bkCells] at d0)
            have H9 : Holds (w8.setCell ⟨b, 12, none⟩ (.slice a8 (es2.length + 1) k8)) (bkP b { x with wv := .slice a8 (es2.length + 1) k8, wo := .slice aO es2.length cO } :: own 120 1 (.slice a8 (es2.length + 1) k8) (es2.length + 1) (es2.map (fun e => e.v) ++ [.slice an (e.n + (i - 1) + 1) cn]) :: own 3 1 (.slice aO es2.length cO) es2.length (es2.map fun e => .int .i64 (e.m : Nat)) :: rowsS 81 mkW ln :: kB x y :: kS x y :: kT x y :: F) := H8.pull3.store 12 _
            have S9 := (S8.setCell ⟨b, 12, none⟩ (.slice a8 (es2.length + 1) k8))
            have c1 := H9.cell 13
            have z1 := H9.free 13
            simp [bkCells] at c1
            clear d0 e0 c0n
            generalize w8.setCell ⟨b, 12, none⟩ (.slice a8 (es2.length + 1) k8) = w9 at H9 S9 c1 z1 ⊢
            have H10 := Holds.ord (l := [_, _, _]) H9 [2, 0, 1] rfl
            simp only [List.map, List.getD_cons_zero, List.getD_cons_succ, List.cons_append, List.nil_append] at H10
            go_wp2_with (at_builtin; refine wpList_append_sl rfl _ _ _ rfl iI (.int .i64 0) Tryz.underlying24 hIj hIy0 hIy1 hIy2 rfl (by decide) rfl (x := .slice (some ⟨w9.heap.size, 0, none⟩) 1 1) rfl (H10.alloc' _) (m := 1) (news := [.int .i64 (e.m : Nat)]) (slice_new w9 _ _ _ 1 1 rfl (by decide)) (by simp [Value.oneCell']) (by omega) (by unfold maxLen; omega) ?_; intro v11 w11 H11 S11; obtain ⟨a11, k11, rfl⟩ := own_shape H11; have d1 := H11.swap.cell 13; have e1 := H11.swap.free 13; simp [bkCells] at d1)
            go_roundw
            case rel =>
              have H12 : Holds (w11.setCell ⟨b, 13, none⟩ (.slice a11 (es2.length + 1) k11)) (bkP b { x with wv := .slice a8 (es2.length + 1) k8, wo := .slice a11 (es2.length + 1) k11 } :: own 3 1 (.slice a11 (es2.length + 1) k11) (es2.length + 1) (es2.map (fun e => .int .i64 (e.m : Nat)) ++ [.int .i64 (e.m : Nat)]) :: own 120 1 (.slice a8 (es2.length + 1) k8) (es2.length + 1) (es2.map (fun e => e.v) ++ [.slice an (e.n + (i - 1) + 1) cn]) :: rowsS 81 mkW ln :: kB x y :: kS x y :: kT x y :: F) := H11.swap.store 13 _
              have H13 := Holds.ord (l := [_, _, _]) H12 [0, 2, 1] rfl
              simp only [List.map, List.getD_cons_zero, List.getD_cons_succ, List.cons_append, List.nil_append] at H13
              refine ⟨i + 1, app ++ [⟨.slice an (e.n + (i - 1) + 1) cn, e.n + (i - 1) + 1, e.m⟩], an, cn, a8, a11, k8, k11, ln, by omega, by omega, by congr 1; omega, by congr 1, ?_, ?_, ?_, ?_, ((Si.alloc _).trans Sn |>.alloc _ |>.trans S9 |>.alloc _ |>.trans S11).setCell _ _⟩
              · rw [List.length_append, List.length_singleton, happ.out, keptN_save i hi1 hsv]
              · rw [hsnoc.out]
                exact hGi2.out.snoc hen2 (by simp only []; omega) hem
              · rw [show e.n + (i + 1 - 1) = e.n + (i - 1) + 1 by omega]; exact hen2
              · rw [hsnoc.out]
                unfold bkGW
                rw [List.map_append, List.map_append, List.length_append]
                exact H13
            case measure => (simp [intOf] <;> omega)
          · have hi4' : ¬ (i : Int) < 4 := by omega
            by_cases hi16 : i % 16 = 0
            · have hsv : i < 4 ∨ i % 16 = 0 := .inr hi16
              have hi16' : (i : Int) % 16 = 0 := by omega
              replace hsv := Lib.hid hsv
              replace hi16 := Lib.hid hi16
              go_upto_region 11 with (first | (go_at_call 95; refine (hat _).mono ?_; rintro e' w' ⟨rfl, hw'⟩; obtain rfl := hw'.symm) | (at_builtin; refine wpList_append_en (e := ⟨.slice agi (e.n + (i - 1)) cgi, e.n + (i - 1), e.m⟩) (mk := mkW) (l := li) rfl _ _ _ rfl i8 (.int .u64 0) Tryz.underlying120 h8j h8y0 h8y1 h8y2 rfl rfl (x := .slice (some ⟨wr.heap.size, 0, none⟩) 1 1) rfl (HR.alloc' _) hen.out (slice_new wr #[mkW e.m (e.n + (i - 1))] _ _ 1 1 rfl (by decide)) rfl (by simp only []; omega) (by unfold maxLen; simp only []; omega) ?_; intro vn ln wn Hn hle hen2 Sn; obtain ⟨an, cn, hvn⟩ := hen2.shape; simp only at hvn hen2; subst hvn; have c0n := Hn.swap.cell 12; simp [bkCells] at c0n))
              clear hi16'
              replace hsv := hsv.out
              have hsnoc : (es ++ (app ++ [⟨.slice an (e.n + (i - 1) + 1) cn, e.n + (i - 1) + 1, e.m⟩])) = es2 ++ [⟨.slice an (e.n + (i - 1) + 1) cn, e.n + (i - 1) + 1, e.m⟩] := by rw [hes2.out, List.append_assoc]
              have hGi2 : GrowOk T es2 ln := by rw [hes2.out]; exact hGi.out.rows hle
              replace hGi2 := Lib.hid hGi2
              replace hsnoc := Lib.hid hsnoc
              have H7 := Holds.ord (l := [_, _, _, _]) Hn [2, 3, 0, 1] rfl
              simp only [List.map, List.getD_cons_zero, List.getD_cons_succ, List.cons_append, List.nil_append] at H7
              go_upto_region 12 with (at_builtin; refine wpList_append_sl rfl _ _ _ rfl iB (.slice none 0 0) Tryz.underlying31 hBj hBy0 hBy1 hBy2 rfl (by decide) rfl (x := .slice (some ⟨wn.heap.size, 0, none⟩) 1 1) rfl (H7.alloc' _) (m := 1) (news := [.slice an (e.n + (i - 1) + 1) cn]) (slice_new wn _ _ _ 1 1 rfl (by decide)) (by simp [Value.oneCell']) (by omega) (by unfold maxLen; omega) ?_; intro v8 w8 H8 S8; obtain ⟨a8, k8, rfl⟩ := own_shape H8; have d0 := H8.pull3.cell 12; have e0 := H8.pull3.free 12; simp [bkCells] at d0)
              have H9 : Holds (w8.setCell ⟨b, 12, none⟩ (.slice a8 (es2.length + 1) k8)) (bkP b { x with wv := .slice a8 (es2.length + 1) k8, wo := .slice aO es2.length cO } :: own 120 1 (.slice a8 (es2.length + 1) k8) (es2.length + 1) (es2.map (fun e => e.v) ++ [.slice an (e.n + (i - 1) + 1) cn]) :: own 3 1 (.slice aO es2.length cO) es2.length (es2.map fun e => .int .i64 (e.m : Nat)) :: rowsS 81 mkW ln :: kB x y :: kS x y :: kT x y :: F) := H8.pull3.store 12 _
              have S9 := (S8.setCell ⟨b, 12, none⟩ (.slice a8 (es2.length + 1) k8))
              have c1 := H9.cell 13
              have z1 := H9.free 13
              simp [bkCells] at c1
              clear d0 e0 c0n
              generalize w8.setCell ⟨b, 12, none⟩ (.slice a8 (es2.length + 1) k8) = w9 at H9 S9 c1 z1 ⊢
              have H10 := Holds.ord (l := [_, _, _]) H9 [2, 0, 1] rfl
              simp only [List.map, List.getD_cons_zero, List.getD_cons_succ, List.cons_append, List.nil_append] at H10
              go_wp2_with (at_builtin; refine wpList_append_sl rfl _ _ _ rfl iI (.int .i64 0) Tryz.underlying24 hIj hIy0 hIy1 hIy2 rfl (by decide) rfl (x := .slice (some ⟨w9.heap.size, 0, none⟩) 1 1) rfl (H10.alloc' _) (m := 1) (news := [.int .i64 (e.m : Nat)]) (slice_new w9 _ _ _ 1 1 rfl (by decide)) (by simp [Value.oneCell']) (by omega) (by unfold maxLen; omega) ?_; intro v11 w11 H11 S11; obtain ⟨a11, k11, rfl⟩ := own_shape H11; have d1 := H11.swap.cell 13; have e1 := H11.swap.free 13; simp [bkCells] at d1)
              go_roundw
              case rel =>
                have H12 : Holds (w11.setCell ⟨b, 13, none⟩ (.slice a11 (es2.length + 1) k11)) (bkP b { x with wv := .slice a8 (es2.length + 1) k8, wo := .slice a11 (es2.length + 1) k11 } :: own 3 1 (.slice a11 (es2.length + 1) k11) (es2.length + 1) (es2.map (fun e => .int .i64 (e.m : Nat)) ++ [.int .i64 (e.m : Nat)]) :: own 120 1 (.slice a8 (es2.length + 1) k8) (es2.length + 1) (es2.map (fun e => e.v) ++ [.slice an (e.n + (i - 1) + 1) cn]) :: rowsS 81 mkW ln :: kB x y :: kS x y :: kT x y :: F) := H11.swap.store 13 _
                have H13 := Holds.ord (l := [_, _, _]) H12 [0, 2, 1] rfl
                simp only [List.map, List.getD_cons_zero, List.getD_cons_succ, List.cons_append, List.nil_append] at H13
                refine ⟨i + 1, app ++ [⟨.slice an (e.n + (i - 1) + 1) cn, e.n + (i - 1) + 1, e.m⟩], an, cn, a8, a11, k8, k11, ln, by omega, by omega, by congr 1; omega, by congr 1, ?_, ?_, ?_, ?_, ((Si.alloc _).trans Sn |>.alloc _ |>.trans S9 |>.alloc _ |>.trans S11).setCell _ _⟩
                · rw [List.length_append, List.length_singleton, happ.out, keptN_save i hi1 hsv]
                · rw [hsnoc.out]
                  exact hGi2.out.snoc hen2 (by simp only []; omega) hem
                · rw [show e.n + (i + 1 - 1) = e.n + (i - 1) + 1 by omega]; exact hen2
                · rw [hsnoc.out]
                  unfold bkGW
                  rw [List.map_append, List.map_append, List.length_append]
                  exact H13
              case measure => (simp [intOf] <;> omega)
            · have hi16' : ((i : Int) % 16 == 0) = false := beq_eq_false_iff_ne.2 (by omega)
              have hks := keptN_skip i hi1 hi4 hi16
              replace hks := Lib.hid hks
              go_wp2_with (first | (go_at_call 95; refine (hat _).mono ?_; rintro e' w' ⟨rfl, hw'⟩; obtain rfl := hw'.symm) | (at_builtin; refine wpList_append_en (e := ⟨.slice agi (e.n + (i - 1)) cgi, e.n + (i - 1), e.m⟩) (mk := mkW) (l := li) rfl _ _ _ rfl i8 (.int .u64 0) Tryz.underlying120 h8j h8y0 h8y1 h8y2 rfl rfl (x := .slice (some ⟨wr.heap.size, 0, none⟩) 1 1) rfl (HR.alloc' _) hen.out (slice_new wr #[mkW e.m (e.n + (i - 1))] _ _ 1 1 rfl (by decide)) rfl (by simp only []; omega) (by unfold maxLen; simp only []; omega) ?_; intro vn ln wn Hn hle hen2 Sn; obtain ⟨an, cn, hvn⟩ := hen2.shape; simp only at hvn hen2; subst hvn; have c0n := Hn.swap.cell 12; simp [bkCells] at c0n))
              go_roundw
              case rel =>
                have H13 := Holds.ord (l := [_, _, _, _]) Hn [1, 2, 3, 0] rfl
                simp only [List.map, List.getD_cons_zero, List.getD_cons_succ, List.cons_append, List.nil_append] at H13
                exact ⟨i + 1, app, an, cn, aL, aO, cL, cO, ln, by omega, by omega, by congr 1; omega, by congr 1, by rw [hks.out]; exact happ.out, hGi.out.rows hle, by rw [show e.n + (i + 1 - 1) = e.n + (i - 1) + 1 by omega]; exact hen2, by rw [← hes2.out]; exact H13, (Si.alloc _).trans Sn⟩
              case measure => (simp [intOf] <;> omega)
        · obtain rfl : i = 33 := by omega
          go_wp2_with fail
          go_roundw
          case rel => exact ⟨k + 1, ext ++ app, aL, aO, cL, cO, li, by omega, by omega, by congr 1, by rw [List.length_append, hext.out, happ.out]; show _ + (3 + (33 - 1) / 16) = _; omega, by rw [← List.append_assoc, ← hes.out]; exact hGi.out, by rw [← List.append_assoc, ← hes.out, ← hes2.out]; exact Hi, Si⟩
          case measure => (simp [intOf] <;> omega)
    · obtain rfl : k = y.w.length := by omega
      have z2 := Hr.free 14
      have c2 := Hr.cell 14
      simp [bkCells] at c2
      replace hesl := Lib.hid hesl
      go_wp2_with fail
      go_end0
      refine ⟨rfl, ?_, Sr.setCell _ _⟩
      have H4 : Holds (wr.setCell ⟨b, 14, none⟩ (.int .i64 (es.length : Nat))) (bkP b { x with wv := .slice aL es.length cL, wo := .slice aO es.length cO, wa := es.length } :: own 120 1 (.slice aL es.length cL) es.length (es.map fun e => e.v) ::
        own 3 1 (.slice aO es.length cO) es.length (es.map fun e => .int .i64 (e.m : Nat)) :: rowsS 81 mkW l :: kB x y :: kS x y :: kT x y :: F) := Hr.store 14 _
      have H5 := Holds.ord (l := [_, _, _, _]) H4 [1, 2, 3, 0] rfl
      simp only [List.map, List.getD_cons_zero, List.getD_cons_succ, List.cons_append, List.nil_append] at H5
      have H6 := kindS_shut hG.out.ok H5
      have hkc := ok.kw.cnt
      exact bookS_shut (x := { x with wv := .slice aL es.length cL, wo := .slice aO es.length cO, wa := es.length }) (y := { y with w := es }) (k1 := k1) (k2 := k2)
        ⟨ok.turn, ok.used, ok.cnt, ok.kb, ⟨by show es.length + (6 - 1) * (es.length - es.length) ≤ _; have := hesl.out; omega, Nat.le_refl _, hG.out.len, hG.out.mark⟩, ok.ks, ok.kt⟩ (Holds.ord (l := [_, _, _]) H6 [1, 2, 0] rfl)
end Go.Proofs.YtakaolcajbhkiaaGreat

namespace Go.Proofs.YtakaolcajbhkiaaGreat
set_option linter.unusedVariables false
set_option linter.unusedSimpArgs false
open Go.RowKit Go.SL Go.Fm

theorem info_elS : (Tryz.prog.info? 121).map (fun i => (i.zero, i.size, i.bytes)) = some (some (.slice none 0 0), 1, 24) := by kernel_rfl
theorem info_ES : (Tryz.prog.info? 122).map (fun i => (i.zero, i.size, i.bytes)) = some (some (.int .u32 0), 1, 4) := by kernel_rfl
theorem mkU_c (m : Nat) (hm : m ≤ 1000000000000) (w : World) : Calls Tryz.prog 96 #[.int .i64 m] w (fun e w' => e = .returned (.int .u32 (((m * 256 % 4294967296 : Nat) : Int))) ∧ w' = w) := by
  go_enter Tryz.func96, Tryz.ntmps96
  go_wp2
  go_ret
  refine ⟨ret_int ?_, rfl⟩
  first | omega | (simp [IntKind.wrap, IntKind.bits, IntKind.signed]; omega)
abbrev bkGS (b : Nat) (x : Bk) (es : List En) (aL aO : Option Addr) (cL cO : Nat) (l : List Rw) (y : BkL) (F : List HProp) : List HProp :=
  bkP b { x with sv := .slice aL es.length cL, so := .slice aO es.length cO } :: own 121 1 (.slice aL es.length cL) es.length (es.map fun e => e.v) ::
    own 3 1 (.slice aO es.length cO) es.length (es.map fun e => .int .i64 (e.m : Nat)) :: rowsS 122 mkU l :: kB x y :: kW x y :: kT x y :: F

set_option maxRecDepth 100000 in
set_option maxHeartbeats 8000000 in
theorem growSmalls_c (b T : Nat) (w : World) (F : List HProp) (H : Holds w (bookS b T :: F)) (hT : T ≤ 900000000000) :
    Calls Tryz.prog 61 #[.pointer (some ⟨b, 0, none⟩)] w (Ret w (.tuple #[]) (bookS b T :: F)) := by
  obtain ⟨iB, hBj, hBy0, hBy1, hBy2⟩ := info_parts info_elS
  obtain ⟨iI, hIj, hIy0, hIy1, hIy2⟩ := info_parts info_int
  obtain ⟨i8, h8j, h8y0, h8y1, h8y2⟩ := info_parts info_ES
  obtain ⟨⟨bv_, bo_, ba_, wv_, wo_, wa_, sv_, so_, sa_, tv_, to__, ta_, turn_, done_, used_⟩, y, k1, k2, ok, H1⟩ := bookS_open H
  obtain ⟨l0, hok0, H2⟩ := kindS_open (Holds.ord (l := [_, _, _, _]) H1 [3, 0, 1, 2] rfl)
  simp only at H2
  obtain ⟨aL0, cL0, rfl⟩ := own_shape H2
  obtain ⟨aO0, cO0, rfl⟩ := own_shape H2.swap
  obtain ⟨x, hx⟩ : ∃ x : Bk, x = ⟨bv_, bo_, ba_, wv_, wo_, wa_, .slice aL0 y.s.length cL0, .slice aO0 y.s.length cO0, sa_, tv_, to__, ta_, turn_, done_, used_⟩ := ⟨_, rfl⟩
  rw [← hx] at ok
  have H3 : Holds w (bkGS b x y.s aL0 aO0 cL0 cO0 l0 y F) := by rw [hx]; exact Holds.ord (l := [_, _, _, _]) H2 [3, 0, 1, 2] rfl
  have hG0 : GrowOk T y.s l0 := ⟨hok0, ok.ks.len, ok.ks.mark⟩
  have hkc := ok.ks.cnt
  have hka := ok.ks.at_le
  have hk := ok.cnt
  have hu := ok.used
  have hbnd : y.s.length + 5 * (y.s.length - x.sa) ≤ 140000 := by omega
  clear H1 H2 hok0
  replace hx := Lib.hid hx
  replace hG0 := Lib.hid hG0
  clear hkc hk hu
  have c0 := H3.cell 15
  have c2 := H3.cell 17
  simp [bkCells] at c0 c2
  go_enter Tryz.func61, Tryz.ntmps61
  go_wp2
  go_loopw [3] (fun s3 wl => ∃ (k : Nat) (ext : List En) (aL aO : Option Addr) (cL cO : Nat) (l : List Rw), x.sa ≤ k ∧ k ≤ y.s.length ∧ s3 = .int .i64 k ∧ ext.length = 5 * (k - x.sa) ∧ GrowOk T (y.s ++ ext) l ∧ Holds wl (bkGS b x (y.s ++ ext) aL aO cL cO l y F) ∧ Str w wl) (fun s3 _ => (200000 - intOf s3).toNat)
  case atStart => exact ⟨x.sa, [], aL0, aO0, cL0, cO0, l0, by omega, hka, rfl, by simp, by rw [List.append_nil]; exact hG0.out, by rw [List.append_nil]; exact H3, Str.refl w⟩
  case round =>
    clear H3 c0 c2 hG0 H
    obtain ⟨k, ext, aL, aO, cL, cO, l, hk1', hk2', rfl, hext, hG, Hr, Sr⟩ := hrel
    obtain ⟨es, hes⟩ : ∃ es, es = y.s ++ ext := ⟨_, rfl⟩
    have hesl : es.length = y.s.length + 5 * (k - x.sa) := by rw [hes, List.length_append, hext]
    rw [← hes] at hG Hr
    replace hG := Lib.hid hG
    replace hes := Lib.hid hes
    replace hext := Lib.hid hext
    have c0 := Hr.cell 15
    have c1 := Hr.cell 16
    simp [bkCells] at c0 c1
    by_cases hkn : k < y.s.length
    · have hke : k < es.length := by omega
      obtain ⟨e, he⟩ : ∃ e, e = es[k] := ⟨_, rfl⟩
      have hmem : e ∈ es := by rw [he]; exact List.getElem_mem hke
      have heok := hG.out.ok e hmem
      have helen := hG.out.len e hmem
      have hem := hG.out.mark e hmem
      obtain ⟨gL, oL, capL, hvL, hcL, hcmL, hcellL⟩ := Hr.swap.own_is.at (by omega)
      obtain ⟨gO, oO, capO, hvO, hcO, hcmO, hcellO⟩ := Hr.pull2.own_is.at (by omega)
      simp only [Value.slice.injEq] at hvL hvO
      obtain ⟨rfl, _, rfl⟩ := hvL
      obtain ⟨rfl, _, rfl⟩ := hvO
      have dL := hcellL k e.v (by simp [he, hke])
      have dO := hcellO k (.int .i64 (e.m : Nat)) (by simp [he, hke])
      obtain ⟨ag, cg, hag⟩ := heok.shape
      rw [hag] at dL
      replace he := Lib.hid he
      replace heok := Lib.hid heok
      replace hag := Lib.hid hag
      replace hesl := Lib.hid hesl
      clear hcellL hcellO hmem
      unfold maxLen at hcmL hcmO
      have hesb : es.length ≤ 140000 := by have := hesl.out; omega
      have hkl : (k : Int) < (es.length : Int) := by omega
      go_wp2_with fail
      go_loopw [4, 6] (fun s4 s6 wl => ∃ (i : Nat) (app : List En) (agi : Option Addr) (cgi : Nat) (aL aO : Option Addr) (cL cO : Nat) (li : List Rw), 1 ≤ i ∧ i ≤ 33 ∧ s4 = .slice agi (e.n + (i - 1)) cgi ∧ s6 = .int .i64 i ∧ app.length = keptN i ∧ GrowOk T (es ++ app) li ∧
        EnOk li ⟨.slice agi (e.n + (i - 1)) cgi, e.n + (i - 1), e.m⟩ ∧ Holds wl (bkGS b x (es ++ app) aL aO cL cO li y F) ∧ Str w wl) (fun _ s6 _ => (200 - intOf s6).toNat)
      case atStart => exact ⟨1, [], ag, cg, _, _, _, _, l, by omega, by omega, rfl, rfl, rfl, by rw [List.append_nil]; exact hG.out, by have := heok.out; have h2 := hag.out; rw [Nat.sub_self, Nat.add_zero, ← h2]; exact this, by rw [List.append_nil]; exact Hr, Sr⟩
      case round =>
        clear Hr Sr c0 c1 dL dO
        obtain ⟨i, app, agi, cgi, aL, aO, cL, cO, li, hi1, hi2, rfl, rfl, happ, hGi, hen, Hi, Si⟩ := hrel
        replace happ := Lib.hid happ
        replace hGi := Lib.hid hGi
        replace hen := Lib.hid hen
        obtain ⟨es2, hes2⟩ : ∃ es2, es2 = es ++ app := ⟨_, rfl⟩
        have hes2l : es2.length ≤ 150000 := by rw [hes2, List.length_append]; have := happ.out; have := keptN_le i (by omega); omega
        have hes2ge : es.length ≤ es2.length := by rw [hes2, List.length_append]; omega
        rw [← hes2] at Hi
        replace hes2 := Lib.hid hes2
        by_cases hi33 : i ≤ 32
        · have hat := mkU_c e.m (by omega)
          have HR := Holds.ord (l := [_, _, _, _]) Hi [3, 0, 1, 2] rfl
          simp only [List.map, List.getD_cons_zero, List.getD_cons_succ, List.cons_append, List.nil_append] at HR
          by_cases hi4 : i < 4
          · have hsv : i < 4 ∨ i % 16 = 0 := .inl hi4
            have hi4' : (i : Int) < 4 := by omega
            replace hsv := Lib.hid hsv
            go_upto_region 11 with (first | (go_at_call 96; refine (hat _).mono ?_; rintro e' w' ⟨rfl, hw'⟩; obtain rfl := hw'.symm) | (at_builtin; refine wpList_append_en (e := ⟨.slice agi (e.n + (i - 1)) cgi, e.n + (i - 1), e.m⟩) (mk := mkU) (l := li) rfl _ _ _ rfl i8 (.int .u32 0) Tryz.underlying121 h8j h8y0 h8y1 h8y2 rfl rfl (x := .slice (some ⟨wr.heap.size, 0, none⟩) 1 1) rfl (HR.alloc' _) hen.out (slice_new wr #[mkU e.m (e.n + (i - 1))] _ _ 1 1 rfl (by decide)) rfl (by simp only []; omega) (by unfold maxLen; simp only []; omega) ?_; intro vn ln wn Hn hle hen2 Sn; obtain ⟨an, cn, hvn⟩ := hen2.shape; simp only at hvn hen2; subst hvn; have c0n := Hn.swap.cell 15; simp [bkCells] at c0n))
            replace hsv := hsv.out
            have hsnoc : (es ++ (app ++ [⟨.slice an (e.n + (i - 1) + 1) cn, e.n + (i - 1) + 1, e.m⟩])) = es2 ++ [⟨.slice an (e.n + (i - 1) + 1) cn, e.n + (i - 1) + 1, e.m⟩] := by rw [hes2.out, List.append_assoc]
            have hGi2 : GrowOk T es2 ln := by rw [hes2.out]; exact hGi.out.rows hle
            replace hGi2 := Lib.hid hGi2
            replace hsnoc := Lib.hid hsnoc
            have H7 := Holds.ord (l := [_, _, _, _]) Hn [2, 3, 0, 1] rfl
            simp only [List.map, List.getD_cons_zero, List.getD_cons_succ, List.cons_append, List.nil_append] at H7
            go_upto_region 12 with (at_builtin; refine wpList_append_sl rfl _ _ _ rfl iB (.slice none 0 0) Tryz.underlying32 hBj hBy0 hBy1 hBy2 rfl (by decide) rfl (x := .slice (some ⟨wn.heap.size, 0, none⟩) 1 1) rfl (H7.alloc' _) (m := 1) (news := [.slice an (e.n + (i - 1) + 1) cn]) (slice_new wn _ _ _ 1 1 rfl (by decide)) (by simp [Value.oneCell']) (by omega) (by unfold maxLen; omega) ?_; intro v8 w8 H8 S8; obtain ⟨a8, k8, rfl⟩ := own_shape H8; have d0 := H8.pull3.cell 15; have e0 := H8.pull3.free 15; simp [bkCells] at d0)
            have H9 : Holds (w8.setCell ⟨b, 15, none⟩ (.slice a8 (es2.length + 1) k8)) (bkP b { x with sv := .slice a8 (es2.length + 1) k8, so := .slice aO es2.length cO } :: own 121 1 (.slice a8 (es2.length + 1) k8) (es2.length + 1) (es2.map (fun e => e.v) ++ [.slice an (e.n + (i - 1) + 1) cn]) :: own 3 1 (.slice aO es2.length cO) es2.length (es2.map fun e => .int .i64 (e.m : Nat)) :: rowsS 122 mkU ln :: kB x y :: kW x y :: kT x y :: F) := H8.pull3.store 15 _
            have S9 := (S8.setCell ⟨b, 15, none⟩ (.slice a8 (es2.length + 1) k8))
            have c1 := H9.cell 16
            have z1 := H9.free 16
            simp [bkCells] at c1
            clear d0 e0 c0n
            generalize w8.setCell ⟨b, 15, none⟩ (.slice a8 (es2.length + 1) k8) = w9 at H9 S9 c1 z1 ⊢
            have H10 := Holds.ord (l := [_, _, _]) H9 [2, 0, 1] rfl
            simp only [List.map, List.getD_cons_zero, List.getD_cons_succ, List.cons_append, List.nil_append] at H10
            go_wp2_with (at_builtin; refine wpList_append_sl rfl _ _ _ rfl iI (.int .i64 0) Tryz.underlying24 hIj hIy0 hIy1 hIy2 rfl (by decide) rfl (x := .slice (some ⟨w9.heap.size, 0, none⟩) 1 1) rfl (H10.alloc' _) (m := 1) (news := [.int .i64 (e.m : Nat)]) (slice_new w9 _ _ _ 1 1 rfl (by decide)) (by simp [Value.oneCell']) (by omega) (by unfold maxLen; omega) ?_; intro v11 w11 H11 S11; obtain ⟨a11, k11, rfl⟩ := own_shape H11; have d1 := H11.swap.cell 16; have e1 := H11.swap.free 16; simp [bkCells] at d1)
            go_roundw
            case rel =>
              have H12 : Holds (w11.setCell ⟨b, 16, none⟩ (.slice a11 (es2.length + 1) k11)) (bkP b { x with sv := .slice a8 (es2.length + 1) k8, so := .slice a11 (es2.length + 1) k11 } :: own 3 1 (.slice a11 (es2.length + 1) k11) (es2.length + 1) (es2.map (fun e => .int .i64 (e.m : Nat)) ++ [.int .i64 (e.m : Nat)]) :: own 121 1 (.slice a8 (es2.length + 1) k8) (es2.length + 1) (es2.map (fun e => e.v) ++ [.slice an (e.n + (i - 1) + 1) cn]) :: rowsS 122 mkU ln :: kB x y :: kW x y :: kT x y :: F) := H11.swap.store 16 _
              have H13 := Holds.ord (l := [_, _, _]) H12 [0, 2, 1] rfl
              simp only [List.map, List.getD_cons_zero, List.getD_cons_succ, List.cons_append, List.nil_append] at H13
              refine ⟨i + 1, app ++ [⟨.slice an (e.n + (i - 1) + 1) cn, e.n + (i - 1) + 1, e.m⟩], an, cn, a8, a11, k8, k11, ln, by omega, by omega, by congr 1; omega, by congr 1, ?_, ?_, ?_, ?_, ((Si.alloc _).trans Sn |>.alloc _ |>.trans S9 |>.alloc _ |>.trans S11).setCell _ _⟩
              · rw [List.length_append, List.length_singleton, happ.out, keptN_save i hi1 hsv]
              · rw [hsnoc.out]
                exact hGi2.out.snoc hen2 (by simp only []; omega) hem
              · rw [show e.n + (i + 1 - 1) = e.n + (i - 1) + 1 by omega]; exact hen2
              · rw [hsnoc.out]
                unfold bkGS
                rw [List.map_append, List.map_append, List.length_append]
                exact H13
            case measure => (simp [intOf] <;> omega)
          · have hi4' : ¬ (i : Int) < 4 := by omega
            by_cases hi16 : i % 16 = 0
            · have hsv : i < 4 ∨ i % 16 = 0 := .inr hi16
              have hi16' : (i : Int) % 16 = 0 := by omega
              replace hsv := Lib.hid hsv
              replace hi16 := Lib.hid hi16
              go_upto_region 11 with (first | (go_at_call 96; refine (hat _).mono ?_; rintro e' w' ⟨rfl, hw'⟩; obtain rfl := hw'.symm) | (at_builtin; refine wpList_append_en (e := ⟨.slice agi (e.n + (i - 1)) cgi, e.n + (i - 1), e.m⟩) (mk := mkU) (l := li) rfl _ _ _ rfl i8 (.int .u32 0) Tryz.underlying121 h8j h8y0 h8y1 h8y2 rfl rfl (x := .slice (some ⟨wr.heap.size, 0, none⟩) 1 1) rfl (HR.alloc' _) hen.out (slice_new wr #[mkU e.m (e.n + (i - 1))] _ _ 1 1 rfl (by decide)) rfl (by simp only []; omega) (by unfold maxLen; simp only []; omega) ?_; intro vn ln wn Hn hle hen2 Sn; obtain ⟨an, cn, hvn⟩ := hen2.shape; simp only at hvn hen2; subst hvn; have c0n := Hn.swap.cell 15; simp [bkCells] at c0n))
              clear hi16'
              replace hsv := hsv.out
              have hsnoc : (es ++ (app ++ [⟨.slice an (e.n + (i - 1) + 1) cn, e.n + (i - 1) + 1, e.m⟩])) = es2 ++ [⟨.slice an (e.n + (i - 1) + 1) cn, e.n + (i - 1) + 1, e.m⟩] := by rw [hes2.out, List.append_assoc]
              have hGi2 : GrowOk T es2 ln := by rw [hes2.out]; exact hGi.out.rows hle
              replace hGi2 := Lib.hid hGi2
              replace hsnoc := Lib.hid hsnoc
              have H7 := Holds.ord (l := [_, _, _, _]) Hn [2, 3, 0, 1] rfl
              simp only [List.map, List.getD_cons_zero, List.getD_cons_succ, List.cons_append, List.nil_append] at H7
              go_upto_region 12 with (at_builtin; refine wpList_append_sl rfl _ _ _ rfl iB (.slice none 0 0) Tryz.underlying32 hBj hBy0 hBy1 hBy2 rfl (by decide) rfl (x := .slice (some ⟨wn.heap.size, 0, none⟩) 1 1) rfl (H7.alloc' _) (m := 1) (news := [.slice an (e.n + (i - 1) + 1) cn]) (slice_new wn _ _ _ 1 1 rfl (by decide)) (by simp [Value.oneCell']) (by omega) (by unfold maxLen; omega) ?_; intro v8 w8 H8 S8; obtain ⟨a8, k8, rfl⟩ := own_shape H8; have d0 := H8.pull3.cell 15; have e0 := H8.pull3.free 15; simp [bkCells] at d0)
              have H9 : Holds (w8.setCell ⟨b, 15, none⟩ (.slice a8 (es2.length + 1) k8)) (bkP b { x with sv := .slice a8 (es2.length + 1) k8, so := .slice aO es2.length cO } :: own 121 1 (.slice a8 (es2.length + 1) k8) (es2.length + 1) (es2.map (fun e => e.v) ++ [.slice an (e.n + (i - 1) + 1) cn]) :: own 3 1 (.slice aO es2.length cO) es2.length (es2.map fun e => .int .i64 (e.m : Nat)) :: rowsS 122 mkU ln :: kB x y :: kW x y :: kT x y :: F) := H8.pull3.store 15 _
              have S9 := (S8.setCell ⟨b, 15, none⟩ (.slice a8 (es2.length + 1) k8))
              have c1 := H9.cell 16
              have z1 := H9.free 16
              simp [bkCells] at c1
              clear d0 e0 c0n
              generalize w8.setCell ⟨b, 15, none⟩ (.slice a8 (es2.length + 1) k8) = w9 at H9 S9 c1 z1 ⊢
              have H10 := Holds.ord (l := [_, _, _]) H9 [2, 0, 1] rfl
              simp only [List.map, List.getD_cons_zero, List.getD_cons_succ, List.cons_append, List.nil_append] at H10
              go_wp2_with (at_builtin; refine wpList_append_sl rfl _ _ _ rfl iI (.int .i64 0) Tryz.underlying24 hIj hIy0 hIy1 hIy2 rfl (by decide) rfl (x := .slice (some ⟨w9.heap.size, 0, none⟩) 1 1) rfl (H10.alloc' _) (m := 1) (news := [.int .i64 (e.m : Nat)]) (slice_new w9 _ _ _ 1 1 rfl (by decide)) (by simp [Value.oneCell']) (by omega) (by unfold maxLen; omega) ?_; intro v11 w11 H11 S11; obtain ⟨a11, k11, rfl⟩ := own_shape H11; have d1 := H11.swap.cell 16; have e1 := H11.swap.free 16; simp [bkCells] at d1)
              go_roundw
              case rel =>
                have H12 : Holds (w11.setCell ⟨b, 16, none⟩ (.slice a11 (es2.length + 1) k11)) (bkP b { x with sv := .slice a8 (es2.length + 1) k8, so := .slice a11 (es2.length + 1) k11 } :: own 3 1 (.slice a11 (es2.length + 1) k11) (es2.length + 1) (es2.map (fun e => .int .i64 (e.m : Nat)) ++ [.int .i64 (e.m : Nat)]) :: own 121 1 (.slice a8 (es2.length + 1) k8) (es2.length + 1) (es2.map (fun e => e.v) ++ [.slice an (e.n + (i - 1) + 1) cn]) :: rowsS 122 mkU ln :: kB x y :: kW x y :: kT x y :: F) := H11.swap.store 16 _
                have H13 := Holds.ord (l := [_, _, _]) H12 [0, 2, 1] rfl
                simp only [List.map, List.getD_cons_zero, List.getD_cons_succ, List.cons_append, List.nil_append] at H13
                refine ⟨i + 1, app ++ [⟨.slice an (e.n + (i - 1) + 1) cn, e.n + (i - 1) + 1, e.m⟩], an, cn, a8, a11, k8, k11, ln, by omega, by omega, by congr 1; omega, by congr 1, ?_, ?_, ?_, ?_, ((Si.alloc _).trans Sn |>.alloc _ |>.trans S9 |>.alloc _ |>.trans S11).setCell _ _⟩
                · rw [List.length_append, List.length_singleton, happ.out, keptN_save i hi1 hsv]
                · rw [hsnoc.out]
                  exact hGi2.out.snoc hen2 (by simp only []; omega) hem
                · rw [show e.n + (i + 1 - 1) = e.n + (i - 1) + 1 by omega]; exact hen2
                · rw [hsnoc.out]
                  unfold bkGS
                  rw [List.map_append, List.map_append, List.length_append]
                  exact H13
              case measure => (simp [intOf] <;> omega)
            · have hi16' : ((i : Int) % 16 == 0) = false := beq_eq_false_iff_ne.2 (by omega)
              have hks := keptN_skip i hi1 hi4 hi16
              replace hks := Lib.hid hks
              go_wp2_with (first | (go_at_call 96; refine (hat _).mono ?_; rintro e' w' ⟨rfl, hw'⟩; obtain rfl := hw'.symm) | (at_builtin; refine wpList_append_en (e := ⟨.slice agi (e.n + (i - 1)) cgi, e.n + (i - 1), e.m⟩) (mk := mkU) (l := li) rfl _ _ _ rfl i8 (.int .u32 0) Tryz.underlying121 h8j h8y0 h8y1 h8y2 rfl rfl (x := .slice (some ⟨wr.heap.size, 0, none⟩) 1 1) rfl (HR.alloc' _) hen.out (slice_new wr #[mkU e.m (e.n + (i - 1))] _ _ 1 1 rfl (by decide)) rfl (by simp only []; omega) (by unfold maxLen; simp only []; omega) ?_; intro vn ln wn Hn hle hen2 Sn; obtain ⟨an, cn, hvn⟩ := hen2.shape; simp only at hvn hen2; subst hvn; have c0n := Hn.swap.cell 15; simp [bkCells] at c0n))
              go_roundw
              case rel =>
                have H13 := Holds.ord (l := [_, _, _, _]) Hn [1, 2, 3, 0] rfl
                simp only [List.map, List.getD_cons_zero, List.getD_cons_succ, List.cons_append, List.nil_append] at H13
                exact ⟨i + 1, app, an, cn, aL, aO, cL, cO, ln, by omega, by omega, by congr 1; omega, by congr 1, by rw [hks.out]; exact happ.out, hGi.out.rows hle, by rw [show e.n + (i + 1 - 1) = e.n + (i - 1) + 1 by omega]; exact hen2, by rw [← hes2.out]; exact H13, (Si.alloc _).trans Sn⟩
              case measure => (simp [intOf] <;> omega)
        · obtain rfl : i = 33 := by omega
          go_wp2_with fail
          go_roundw
          case rel => exact ⟨k + 1, ext ++ app, aL, aO, cL, cO, li, by omega, by omega, by congr 1, by rw [List.length_append, hext.out, happ.out]; show _ + (3 + (33 - 1) / 16) = _; omega, by rw [← List.append_assoc, ← hes.out]; exact hGi.out, by rw [← List.append_assoc, ← hes.out, ← hes2.out]; exact Hi, Si⟩
          case measure => (simp [intOf] <;> omega)
    · obtain rfl : k = y.s.length := by omega
      have z2 := Hr.free 17
      have c2 := Hr.cell 17
      simp [bkCells] at c2
      replace hesl := Lib.hid hesl
      go_wp2_with fail
      go_end0
      refine ⟨rfl, ?_, Sr.setCell _ _⟩
      have H4 : Holds (wr.setCell ⟨b, 17, none⟩ (.int .i64 (es.length : Nat))) (bkP b { x with sv := .slice aL es.length cL, so := .slice aO es.length cO, sa := es.length } :: own 121 1 (.slice aL es.length cL) es.length (es.map fun e => e.v) ::
        own 3 1 (.slice aO es.length cO) es.length (es.map fun e => .int .i64 (e.m : Nat)) :: rowsS 122 mkU l :: kB x y :: kW x y :: kT x y :: F) := Hr.store 17 _
      have H5 := Holds.ord (l := [_, _, _, _]) H4 [1, 2, 3, 0] rfl
      simp only [List.map, List.getD_cons_zero, List.getD_cons_succ, List.cons_append, List.nil_append] at H5
      have H6 := kindS_shut hG.out.ok H5
      have hkc := ok.ks.cnt
      exact bookS_shut (x := { x with sv := .slice aL es.length cL, so := .slice aO es.length cO, sa := es.length }) (y := { y with s := es }) (k1 := k1) (k2 := k2)
        ⟨ok.turn, ok.used, ok.cnt, ok.kb, ok.kw, ⟨by show es.length + (6 - 1) * (es.length - es.length) ≤ _; have := hesl.out; omega, Nat.le_refl _, hG.out.len, hG.out.mark⟩, ok.kt⟩ (Holds.ord (l := [_, _, _, _]) H6 [1, 2, 3, 0] rfl)
end Go.Proofs.YtakaolcajbhkiaaGreat

namespace Go.Proofs.YtakaolcajbhkiaaGreat
set_option linter.unusedVariables false
set_option linter.unusedSimpArgs false
open Go.RowKit Go.SL Go.Fm

theorem info_elT : (Tryz.prog.info? 54).map (fun i => (i.zero, i.size, i.bytes)) = some (some (.slice none 0 0), 1, 24) := by kernel_rfl
theorem info_ET : (Tryz.prog.info? 2).map (fun i => (i.zero, i.size, i.bytes)) = some (some (.int .i64 0), 1, 8) := by kernel_rfl
theorem mkT_c (m : Nat) (hm : m ≤ 1000000000000) (w : World) : Calls Tryz.prog 48 #[.int .i64 m] w (fun e w' => e = .returned (.int .i64 (-7 - ((m * 1048576 : Nat) : Int))) ∧ w' = w) := by
  go_enter Tryz.func48, Tryz.ntmps48
  go_wp2
  go_ret
  refine ⟨ret_int ?_, rfl⟩
  omega
abbrev bkGT (b : Nat) (x : Bk) (es : List En) (aL aO : Option Addr) (cL cO : Nat) (l : List Rw) (y : BkL) (F : List HProp) : List HProp :=
  bkP b { x with tv := .slice aL es.length cL, to_ := .slice aO es.length cO } :: own 54 1 (.slice aL es.length cL) es.length (es.map fun e => e.v) ::
    own 3 1 (.slice aO es.length cO) es.length (es.map fun e => .int .i64 (e.m : Nat)) :: rowsS 2 mkT l :: kB x y :: kW x y :: kS x y :: F

set_option maxRecDepth 100000 in
set_option maxHeartbeats 8000000 in
theorem growTimes_c (b T : Nat) (w : World) (F : List HProp) (H : Holds w (bookS b T :: F)) (hT : T ≤ 900000000000) :
    Calls Tryz.prog 62 #[.pointer (some ⟨b, 0, none⟩)] w (Ret w (.tuple #[]) (bookS b T :: F)) := by
  obtain ⟨iB, hBj, hBy0, hBy1, hBy2⟩ := info_parts info_elT
  obtain ⟨iI, hIj, hIy0, hIy1, hIy2⟩ := info_parts info_int
  obtain ⟨i8, h8j, h8y0, h8y1, h8y2⟩ := info_parts info_ET
  obtain ⟨⟨bv_, bo_, ba_, wv_, wo_, wa_, sv_, so_, sa_, tv_, to__, ta_, turn_, done_, used_⟩, y, k1, k2, ok, H1⟩ := bookS_open H
  obtain ⟨l0, hok0, H2⟩ := kindS_open (Holds.ord (l := [_, _, _, _, _]) H1 [4, 0, 1, 2, 3] rfl)
  simp only at H2
  obtain ⟨aL0, cL0, rfl⟩ := own_shape H2
  obtain ⟨aO0, cO0, rfl⟩ := own_shape H2.swap
  obtain ⟨x, hx⟩ : ∃ x : Bk, x = ⟨bv_, bo_, ba_, wv_, wo_, wa_, sv_, so_, sa_, .slice aL0 y.t.length cL0, .slice aO0 y.t.length cO0, ta_, turn_, done_, used_⟩ := ⟨_, rfl⟩
  rw [← hx] at ok
  have H3 : Holds w (bkGT b x y.t aL0 aO0 cL0 cO0 l0 y F) := by rw [hx]; exact Holds.ord (l := [_, _, _, _]) H2 [3, 0, 1, 2] rfl
  have hG0 : GrowOk T y.t l0 := ⟨hok0, ok.kt.len, ok.kt.mark⟩
  have hkc := ok.kt.cnt
  have hka := ok.kt.at_le
  have hk := ok.cnt
  have hu := ok.used
  have hbnd : y.t.length + 5 * (y.t.length - x.ta) ≤ 140000 := by omega
  clear H1 H2 hok0
  replace hx := Lib.hid hx
  replace hG0 := Lib.hid hG0
  clear hkc hk hu
  have c0 := H3.cell 18
  have c2 := H3.cell 20
  simp [bkCells] at c0 c2
  go_enter Tryz.func62, Tryz.ntmps62
  go_wp2
  go_loopw [3] (fun s3 wl => ∃ (k : Nat) (ext : List En) (aL aO : Option Addr) (cL cO : Nat) (l : List Rw), x.ta ≤ k ∧ k ≤ y.t.length ∧ s3 = .int .i64 k ∧ ext.length = 5 * (k - x.ta) ∧ GrowOk T (y.t ++ ext) l ∧ Holds wl (bkGT b x (y.t ++ ext) aL aO cL cO l y F) ∧ Str w wl) (fun s3 _ => (200000 - intOf s3).toNat)
  case atStart => exact ⟨x.ta, [], aL0, aO0, cL0, cO0, l0, by omega, hka, rfl, by simp, by rw [List.append_nil]; exact hG0.out, by rw [List.append_nil]; exact H3, Str.refl w⟩
  case round =>
    clear H3 c0 c2 hG0 H
    obtain ⟨k, ext, aL, aO, cL, cO, l, hk1', hk2', rfl, hext, hG, Hr, Sr⟩ := hrel
    obtain ⟨es, hes⟩ : ∃ es, es = y.t ++ ext := ⟨_, rfl⟩
    have hesl : es.length = y.t.length + 5 * (k - x.ta) := by rw [hes, List.length_append, hext]
    rw [← hes] at hG Hr
    replace hG := Lib.hid hG
    replace hes := Lib.hid hes
    replace hext := Lib.hid hext
    have c0 := Hr.cell 18
    have c1 := Hr.cell 19
    simp [bkCells] at c0 c1
    by_cases hkn : k < y.t.length
    · have hke : k < es.length := by omega
      obtain ⟨e, he⟩ : ∃ e, e = es[k] := ⟨_, rfl⟩
      have hmem : e ∈ es := by rw [he]; exact List.getElem_mem hke
      have heok := hG.out.ok e hmem
      have helen := hG.out.len e hmem
      have hem := hG.out.mark e hmem
      obtain ⟨gL, oL, capL, hvL, hcL, hcmL, hcellL⟩ := Hr.swap.own_is.at (by omega)
      obtain ⟨gO, oO, capO, hvO, hcO, hcmO, hcellO⟩ := Hr.pull2.own_is.at (by omega)
      simp only [Value.slice.injEq] at hvL hvO
      obtain ⟨rfl, _, rfl⟩ := hvL
      obtain ⟨rfl, _, rfl⟩ := hvO
      have dL := hcellL k e.v (by simp [he, hke])
      have dO := hcellO k (.int .i64 (e.m : Nat)) (by simp [he, hke])
      obtain ⟨ag, cg, hag⟩ := heok.shape
      rw [hag] at dL
      replace he := Lib.hid he
      replace heok := Lib.hid heok
      replace hag := Lib.hid hag
      replace hesl := Lib.hid hesl
      clear hcellL hcellO hmem
      unfold maxLen at hcmL hcmO
      have hesb : es.length ≤ 140000 := by have := hesl.out; omega
      have hkl : (k : Int) < (es.length : Int) := by omega
      go_wp2_with fail
      go_loopw [4, 6] (fun s4 s6 wl => ∃ (i : Nat) (app : List En) (agi : Option Addr) (cgi : Nat) (aL aO : Option Addr) (cL cO : Nat) (li : List Rw), 1 ≤ i ∧ i ≤ 33 ∧ s4 = .slice agi (e.n + (i - 1)) cgi ∧ s6 = .int .i64 i ∧ app.length = keptN i ∧ GrowOk T (es ++ app) li ∧
        EnOk li ⟨.slice agi (e.n + (i - 1)) cgi, e.n + (i - 1), e.m⟩ ∧ Holds wl (bkGT b x (es ++ app) aL aO cL cO li y F) ∧ Str w wl) (fun _ s6 _ => (200 - intOf s6).toNat)
      case atStart => exact ⟨1, [], ag, cg, _, _, _, _, l, by omega, by omega, rfl, rfl, rfl, by rw [List.append_nil]; exact hG.out, by have := heok.out; have h2 := hag.out; rw [Nat.sub_self, Nat.add_zero, ← h2]; exact this, by rw [List.append_nil]; exact Hr, Sr⟩
      case round =>
        clear Hr Sr c0 c1 dL dO
        obtain ⟨i, app, agi, cgi, aL, aO, cL, cO, li, hi1, hi2, rfl, rfl, happ, hGi, hen, Hi, Si⟩ := hrel
        replace happ := Lib.hid happ
        replace hGi := Lib.hid hGi
        replace hen := Lib.hid hen
        obtain ⟨es2, hes2⟩ : ∃ es2, es2 = es ++ app := ⟨_, rfl⟩
        have hes2l : es2.length ≤ 150000 := by rw [hes2, List.length_append]; have := happ.out; have := keptN_le i (by omega); omega
        have hes2ge : es.length ≤ es2.length := by rw [hes2, List.length_append]; omega
        rw [← hes2] at Hi
        replace hes2 := Lib.hid hes2
        by_cases hi33 : i ≤ 32
        · have hat := mkT_c e.m (by omega)
          have HR := Holds.ord (l := [_, _, _, _]) Hi [3, 0, 1, 2] rfl
          simp only [List.map, List.getD_cons_zero, List.getD_cons_succ, List.cons_append, List.nil_append] at HR
          by_cases hi4 : i < 4
          · have hsv : i < 4 ∨ i % 16 = 0 := .inl hi4
            have hi4' : (i : Int) < 4 := by omega
            replace hsv := Lib.hid hsv
            go_upto_region 11 with (first | (go_at_call 48; refine (hat _).mono ?_; rintro e' w' ⟨rfl, hw'⟩; obtain rfl := hw'.symm) | (at_builtin; refine wpList_append_en (e := ⟨.slice agi (e.n + (i - 1)) cgi, e.n + (i - 1), e.m⟩) (mk := mkT) (l := li) rfl _ _ _ rfl i8 (.int .i64 0) Tryz.underlying54 h8j h8y0 h8y1 h8y2 rfl rfl (x := .slice (some ⟨wr.heap.size, 0, none⟩) 1 1) rfl (HR.alloc' _) hen.out (slice_new wr #[mkT e.m (e.n + (i - 1))] _ _ 1 1 rfl (by decide)) rfl (by simp only []; omega) (by unfold maxLen; simp only []; omega) ?_; intro vn ln wn Hn hle hen2 Sn; obtain ⟨an, cn, hvn⟩ := hen2.shape; simp only at hvn hen2; subst hvn; have c0n := Hn.swap.cell 18; simp [bkCells] at c0n))
            replace hsv := hsv.out
            have hsnoc : (es ++ (app ++ [⟨.slice an (e.n + (i - 1) + 1) cn, e.n + (i - 1) + 1, e.m⟩])) = es2 ++ [⟨.slice an (e.n + (i - 1) + 1) cn, e.n + (i - 1) + 1, e.m⟩] := by rw [hes2.out, List.append_assoc]
            have hGi2 : GrowOk T es2 ln := by rw [hes2.out]; exact hGi.out.rows hle
            replace hGi2 := Lib.hid hGi2
            replace hsnoc := Lib.hid hsnoc
            have H7 := Holds.ord (l := [_, _, _, _]) Hn [2, 3, 0, 1] rfl
            simp only [List.map, List.getD_cons_zero, List.getD_cons_succ, List.cons_append, List.nil_append] at H7
            go_upto_region 12 with (at_builtin; refine wpList_append_sl rfl _ _ _ rfl iB (.slice none 0 0) Tryz.underlying22 hBj hBy0 hBy1 hBy2 rfl (by decide) rfl (x := .slice (some ⟨wn.heap.size, 0, none⟩) 1 1) rfl (H7.alloc' _) (m := 1) (news := [.slice an (e.n + (i - 1) + 1) cn]) (slice_new wn _ _ _ 1 1 rfl (by decide)) (by simp [Value.oneCell']) (by omega) (by unfold maxLen; omega) ?_; intro v8 w8 H8 S8; obtain ⟨a8, k8, rfl⟩ := own_shape H8; have d0 := H8.pull3.cell 18; have e0 := H8.pull3.free 18; simp [bkCells] at d0)
            have H9 : Holds (w8.setCell ⟨b, 18, none⟩ (.slice a8 (es2.length + 1) k8)) (bkP b { x with tv := .slice a8 (es2.length + 1) k8, to_ := .slice aO es2.length cO } :: own 54 1 (.slice a8 (es2.length + 1) k8) (es2.length + 1) (es2.map (fun e => e.v) ++ [.slice an (e.n + (i - 1) + 1) cn]) :: own 3 1 (.slice aO es2.length cO) es2.length (es2.map fun e => .int .i64 (e.m : Nat)) :: rowsS 2 mkT ln :: kB x y :: kW x y :: kS x y :: F) := H8.pull3.store 18 _
            have S9 := (S8.setCell ⟨b, 18, none⟩ (.slice a8 (es2.length + 1) k8))
            have c1 := H9.cell 19
            have z1 := H9.free 19
            simp [bkCells] at c1
            clear d0 e0 c0n
            generalize w8.setCell ⟨b, 18, none⟩ (.slice a8 (es2.length + 1) k8) = w9 at H9 S9 c1 z1 ⊢
            have H10 := Holds.ord (l := [_, _, _]) H9 [2, 0, 1] rfl
            simp only [List.map, List.getD_cons_zero, List.getD_cons_succ, List.cons_append, List.nil_append] at H10
            go_wp2_with (at_builtin; refine wpList_append_sl rfl _ _ _ rfl iI (.int .i64 0) Tryz.underlying24 hIj hIy0 hIy1 hIy2 rfl (by decide) rfl (x := .slice (some ⟨w9.heap.size, 0, none⟩) 1 1) rfl (H10.alloc' _) (m := 1) (news := [.int .i64 (e.m : Nat)]) (slice_new w9 _ _ _ 1 1 rfl (by decide)) (by simp [Value.oneCell']) (by omega) (by unfold maxLen; omega) ?_; intro v11 w11 H11 S11; obtain ⟨a11, k11, rfl⟩ := own_shape H11; have d1 := H11.swap.cell 19; have e1 := H11.swap.free 19; simp [bkCells] at d1)
            go_roundw
            case rel =>
              have H12 : Holds (w11.setCell ⟨b, 19, none⟩ (.slice a11 (es2.length + 1) k11)) (bkP b { x with tv := .slice a8 (es2.length + 1) k8, to_ := .slice a11 (es2.length + 1) k11 } :: own 3 1 (.slice a11 (es2.length + 1) k11) (es2.length + 1) (es2.map (fun e => .int .i64 (e.m : Nat)) ++ [.int .i64 (e.m : Nat)]) :: own 54 1 (.slice a8 (es2.length + 1) k8) (es2.length + 1) (es2.map (fun e => e.v) ++ [.slice an (e.n + (i - 1) + 1) cn]) :: rowsS 2 mkT ln :: kB x y :: kW x y :: kS x y :: F) := H11.swap.store 19 _
              have H13 := Holds.ord (l := [_, _, _]) H12 [0, 2, 1] rfl
              simp only [List.map, List.getD_cons_zero, List.getD_cons_succ, List.cons_append, List.nil_append] at H13
              refine ⟨i + 1, app ++ [⟨.slice an (e.n + (i - 1) + 1) cn, e.n + (i - 1) + 1, e.m⟩], an, cn, a8, a11, k8, k11, ln, by omega, by omega, by congr 1; omega, by congr 1, ?_, ?_, ?_, ?_, ((Si.alloc _).trans Sn |>.alloc _ |>.trans S9 |>.alloc _ |>.trans S11).setCell _ _⟩
              · rw [List.length_append, List.length_singleton, happ.out, keptN_save i hi1 hsv]
              · rw [hsnoc.out]
                exact hGi2.out.snoc hen2 (by simp only []; omega) hem
              · rw [show e.n + (i + 1 - 1) = e.n + (i - 1) + 1 by omega]; exact hen2
              · rw [hsnoc.out]
                unfold bkGT
                rw [List.map_append, List.map_append, List.length_append]
                exact H13
            case measure => (simp [intOf] <;> omega)
          · have hi4' : ¬ (i : Int) < 4 := by omega
            by_cases hi16 : i % 16 = 0
            · have hsv : i < 4 ∨ i % 16 = 0 := .inr hi16
              have hi16' : (i : Int) % 16 = 0 := by omega
              replace hsv := Lib.hid hsv
              replace hi16 := Lib.hid hi16
              go_upto_region 11 with (first | (go_at_call 48; refine (hat _).mono ?_; rintro e' w' ⟨rfl, hw'⟩; obtain rfl := hw'.symm) | (at_builtin; refine wpList_append_en (e := ⟨.slice agi (e.n + (i - 1)) cgi, e.n + (i - 1), e.m⟩) (mk := mkT) (l := li) rfl _ _ _ rfl i8 (.int .i64 0) Tryz.underlying54 h8j h8y0 h8y1 h8y2 rfl rfl (x := .slice (some ⟨wr.heap.size, 0, none⟩) 1 1) rfl (HR.alloc' _) hen.out (slice_new wr #[mkT e.m (e.n + (i - 1))] _ _ 1 1 rfl (by decide)) rfl (by simp only []; omega) (by unfold maxLen; simp only []; omega) ?_; intro vn ln wn Hn hle hen2 Sn; obtain ⟨an, cn, hvn⟩ := hen2.shape; simp only at hvn hen2; subst hvn; have c0n := Hn.swap.cell 18; simp [bkCells] at c0n))
              clear hi16'
              replace hsv := hsv.out
              have hsnoc : (es ++ (app ++ [⟨.slice an (e.n + (i - 1) + 1) cn, e.n + (i - 1) + 1, e.m⟩])) = es2 ++ [⟨.slice an (e.n + (i - 1) + 1) cn, e.n + (i - 1) + 1, e.m⟩] := by rw [hes2.out, List.append_assoc]
              have hGi2 : GrowOk T es2 ln := by rw [hes2.out]; exact hGi.out.rows hle
              replace hGi2 := Lib.hid hGi2
              replace hsnoc := Lib.hid hsnoc
              have H7 := Holds.ord (l := [_, _, _, _]) Hn [2, 3, 0, 1] rfl
              simp only [List.map, List.getD_cons_zero, List.getD_cons_succ, List.cons_append, List.nil_append] at H7
              go_upto_region 12 with (at_builtin; refine wpList_append_sl rfl _ _ _ rfl iB (.slice none 0 0) Tryz.underlying22 hBj hBy0 hBy1 hBy2 rfl (by decide) rfl (x := .slice (some ⟨wn.heap.size, 0, none⟩) 1 1) rfl (H7.alloc' _) (m := 1) (news := [.slice an (e.n + (i - 1) + 1) cn]) (slice_new wn _ _ _ 1 1 rfl (by decide)) (by simp [Value.oneCell']) (by omega) (by unfold maxLen; omega) ?_; intro v8 w8 H8 S8; obtain ⟨a8, k8, rfl⟩ := own_shape H8; have d0 := H8.pull3.cell 18; have e0 := H8.pull3.free 18; simp [bkCells] at d0)
              have H9 : Holds (w8.setCell ⟨b, 18, none⟩ (.slice a8 (es2.length + 1) k8)) (bkP b { x with tv := .slice a8 (es2.length + 1) k8, to_ := .slice aO es2.length cO } :: own 54 1 (.slice a8 (es2.length + 1) k8) (es2.length + 1) (es2.map (fun e => e.v) ++ [.slice an (e.n + (i - 1) + 1) cn]) :: own 3 1 (.slice aO es2.length cO) es2.length (es2.map fun e => .int .i64 (e.m : Nat)) :: rowsS 2 mkT ln :: kB x y :: kW x y :: kS x y :: F) := H8.pull3.store 18 _
              have S9 := (S8.setCell ⟨b, 18, none⟩ (.slice a8 (es2.length + 1) k8))
              have c1 := H9.cell 19
              have z1 := H9.free 19
              simp [bkCells] at c1
              clear d0 e0 c0n
              generalize w8.setCell ⟨b, 18, none⟩ (.slice a8 (es2.length + 1) k8) = w9 at H9 S9 c1 z1 ⊢
              have H10 := Holds.ord (l := [_, _, _]) H9 [2, 0, 1] rfl
              simp only [List.map, List.getD_cons_zero, List.getD_cons_succ, List.cons_append, List.nil_append] at H10
              go_wp2_with (at_builtin; refine wpList_append_sl rfl _ _ _ rfl iI (.int .i64 0) Tryz.underlying24 hIj hIy0 hIy1 hIy2 rfl (by decide) rfl (x := .slice (some ⟨w9.heap.size, 0, none⟩) 1 1) rfl (H10.alloc' _) (m := 1) (news := [.int .i64 (e.m : Nat)]) (slice_new w9 _ _ _ 1 1 rfl (by decide)) (by simp [Value.oneCell']) (by omega) (by unfold maxLen; omega) ?_; intro v11 w11 H11 S11; obtain ⟨a11, k11, rfl⟩ := own_shape H11; have d1 := H11.swap.cell 19; have e1 := H11.swap.free 19; simp [bkCells] at d1)
              go_roundw
              case rel =>
                have H12 : Holds (w11.setCell ⟨b, 19, none⟩ (.slice a11 (es2.length + 1) k11)) (bkP b { x with tv := .slice a8 (es2.length + 1) k8, to_ := .slice a11 (es2.length + 1) k11 } :: own 3 1 (.slice a11 (es2.length + 1) k11) (es2.length + 1) (es2.map (fun e => .int .i64 (e.m : Nat)) ++ [.int .i64 (e.m : Nat)]) :: own 54 1 (.slice a8 (es2.length + 1) k8) (es2.length + 1) (es2.map (fun e => e.v) ++ [.slice an (e.n + (i - 1) + 1) cn]) :: rowsS 2 mkT ln :: kB x y :: kW x y :: kS x y :: F) := H11.swap.store 19 _
                have H13 := Holds.ord (l := [_, _, _]) H12 [0, 2, 1] rfl
                simp only [List.map, List.getD_cons_zero, List.getD_cons_succ, List.cons_append, List.nil_append] at H13
                refine ⟨i + 1, app ++ [⟨.slice an (e.n + (i - 1) + 1) cn, e.n + (i - 1) + 1, e.m⟩], an, cn, a8, a11, k8, k11, ln, by omega, by omega, by congr 1; omega, by congr 1, ?_, ?_, ?_, ?_, ((Si.alloc _).trans Sn |>.alloc _ |>.trans S9 |>.alloc _ |>.trans S11).setCell _ _⟩
                · rw [List.length_append, List.length_singleton, happ.out, keptN_save i hi1 hsv]
                · rw [hsnoc.out]
                  exact hGi2.out.snoc hen2 (by simp only []; omega) hem
                · rw [show e.n + (i + 1 - 1) = e.n + (i - 1) + 1 by omega]; exact hen2
                · rw [hsnoc.out]
                  unfold bkGT
                  rw [List.map_append, List.map_append, List.length_append]
                  exact H13
              case measure => (simp [intOf] <;> omega)
            · have hi16' : ((i : Int) % 16 == 0) = false := beq_eq_false_iff_ne.2 (by omega)
              have hks := keptN_skip i hi1 hi4 hi16
              replace hks := Lib.hid hks
              go_wp2_with (first | (go_at_call 48; refine (hat _).mono ?_; rintro e' w' ⟨rfl, hw'⟩; obtain rfl := hw'.symm) | (at_builtin; refine wpList_append_en (e := ⟨.slice agi (e.n + (i - 1)) cgi, e.n + (i - 1), e.m⟩) (mk := mkT) (l := li) rfl _ _ _ rfl i8 (.int .i64 0) Tryz.underlying54 h8j h8y0 h8y1 h8y2 rfl rfl (x := .slice (some ⟨wr.heap.size, 0, none⟩) 1 1) rfl (HR.alloc' _) hen.out (slice_new wr #[mkT e.m (e.n + (i - 1))] _ _ 1 1 rfl (by decide)) rfl (by simp only []; omega) (by unfold maxLen; simp only []; omega) ?_; intro vn ln wn Hn hle hen2 Sn; obtain ⟨an, cn, hvn⟩ := hen2.shape; simp only at hvn hen2; subst hvn; have c0n := Hn.swap.cell 18; simp [bkCells] at c0n))
              go_roundw
              case rel =>
                have H13 := Holds.ord (l := [_, _, _, _]) Hn [1, 2, 3, 0] rfl
                simp only [List.map, List.getD_cons_zero, List.getD_cons_succ, List.cons_append, List.nil_append] at H13
                exact ⟨i + 1, app, an, cn, aL, aO, cL, cO, ln, by omega, by omega, by congr 1; omega, by congr 1, by rw [hks.out]; exact happ.out, hGi.out.rows hle, by rw [show e.n + (i + 1 - 1) = e.n + (i - 1) + 1 by omega]; exact hen2, by rw [← hes2.out]; exact H13, (Si.alloc _).trans Sn⟩
              case measure => (simp [intOf] <;> omega)
        · obtain rfl : i = 33 := by omega
          go_wp2_with fail
          go_roundw
          case rel => exact ⟨k + 1, ext ++ app, aL, aO, cL, cO, li, by omega, by omega, by congr 1, by rw [List.length_append, hext.out, happ.out]; show _ + (3 + (33 - 1) / 16) = _; omega, by rw [← List.append_assoc, ← hes.out]; exact hGi.out, by rw [← List.append_assoc, ← hes.out, ← hes2.out]; exact Hi, Si⟩
          case measure => (simp [intOf] <;> omega)
    · obtain rfl : k = y.t.length := by omega
      have z2 := Hr.free 20
      have c2 := Hr.cell 20
      simp [bkCells] at c2
      replace hesl := Lib.hid hesl
      go_wp2_with fail
      go_end0
      refine ⟨rfl, ?_, Sr.setCell _ _⟩
      have H4 : Holds (wr.setCell ⟨b, 20, none⟩ (.int .i64 (es.length : Nat))) (bkP b { x with tv := .slice aL es.length cL, to_ := .slice aO es.length cO, ta := es.length } :: own 54 1 (.slice aL es.length cL) es.length (es.map fun e => e.v) ::
        own 3 1 (.slice aO es.length cO) es.length (es.map fun e => .int .i64 (e.m : Nat)) :: rowsS 2 mkT l :: kB x y :: kW x y :: kS x y :: F) := Hr.store 20 _
      have H5 := Holds.ord (l := [_, _, _, _]) H4 [1, 2, 3, 0] rfl
      simp only [List.map, List.getD_cons_zero, List.getD_cons_succ, List.cons_append, List.nil_append] at H5
      have H6 := kindS_shut hG.out.ok H5
      have hkc := ok.kt.cnt
      exact bookS_shut (x := { x with tv := .slice aL es.length cL, to_ := .slice aO es.length cO, ta := es.length }) (y := { y with t := es }) (k1 := k1) (k2 := k2)
        ⟨ok.turn, ok.used, ok.cnt, ok.kb, ok.kw, ok.ks, ⟨by show es.length + (6 - 1) * (es.length - es.length) ≤ _; have := hesl.out; omega, Nat.le_refl _, hG.out.len, hG.out.mark⟩⟩ (Holds.ord (l := [_, _, _, _, _]) H6 [1, 2, 3, 4, 0] rfl)
end Go.Proofs.YtakaolcajbhkiaaGreat
