/- The law BitsBack, walked. -/
import Derived.Test.YtngnfdlkkedaaaaLGot
import Derived.Test.YtngnfdlkkedaaaaLTop
import Derived.WalkSpells
namespace Go.Proofs.Ytngnfdlkkedaaaa
open Go.RowKit Go.SL Go.Fm
set_option linter.unusedVariables false
set_option linter.unusedSimpArgs false

theorem info_Op : (Try.prog.info? 37).map (fun i => (i.zero, i.size, i.bytes)) = some (some (.agg #[.int .i64 0, .int .i64 0, .int .u64 0, .int .i64 0]), 4, 32) := by kernel_rfl
theorem info_u8' : (Try.prog.info? 5).map (fun i => (i.zero, i.size, i.bytes)) = some (some (.int .u8 0), 1, 1) := info_u8
theorem own_empty {w : World} {F : List HProp} (H : Holds w F) : Holds (w.alloc (.cells #[] 5)) (own 5 1 (.slice (some ⟨w.heap.size, 0, none⟩) 0 0) 0 [] :: F) :=
  (H.alloc (.cells #[] 5)).own_of_pts (rest := []) (Nat.le_refl _) (by decide) rfl rfl rfl
theorem own_more {w : World} {F : List HProp} {v : Value} {B : List Nat} (H : Holds w (own 5 1 v (B.length + 1) (bv B ++ [.int .u8 0]) :: F)) : Holds w (own 5 1 v (B ++ [0]).length (bv (B ++ [0])) :: F) := by
  rw [bv_append, List.length_append, List.length_singleton]
  exact H
theorem pack_lt' (M : List Bool) : ∀ x ∈ pack M ++ [0], x < 256 := by
  intro x hx
  rcases List.mem_append.1 hx with h | h
  · exact pack_lt M x h
  · simp at h; omega
theorem slice_take {w : World} {a : Option Addr} {n c m : Nat} {xs : List Value} (h : SliceIs w 1 (.slice a n c) n xs) (hm : m ≤ n) (ha : a ≠ none) : SliceIs w 1 (.slice a m c) m (xs.take m) := by
  refine ⟨by rw [List.length_take, h.1]; omega, ?_⟩
  rcases h.2 with ⟨h1, h2⟩ | ⟨a', cap, h1, h2, h3, h4⟩
  · simp only [Value.slice.injEq] at h1
    exact absurd h1.1 ha
  · simp only [Value.slice.injEq] at h1
    obtain ⟨rfl, _, rfl⟩ := h1
    refine .inr ⟨a', c, rfl, by omega, h3, fun j x hj => h4 j x ?_⟩
    rw [List.getElem?_take] at hj
    split at hj
    · exact hj
    · cases hj
theorem unpack_take (B : List Nat) (q : Nat) (hq : q ≤ B.length) : unpack (B.take q) = (unpack B).take (8 * q) := by
  have h : unpack B = unpack (B.take q) ++ unpack (B.drop q) := by rw [← unpack_append, List.take_append_drop]
  rw [h, List.take_left' (by rw [length_unpack, List.length_take, Nat.min_eq_left hq])]
theorem cut_start (K : List OpD) (h : 0 < (pack (opsBits K)).length) : Cut (K.drop 0) ⟨unpack ((pack (opsBits K)).take ((pack (opsBits K)).length - 1)), 0⟩ := by
  have hl := length_pack (opsBits K)
  refine .inr ⟨8 * ((pack (opsBits K)).length - 1), by rw [List.drop_zero]; omega, ?_⟩
  rw [unpack_take _ _ (by omega), unpack_pack, List.drop_zero, List.take_append, show 8 * ((pack (opsBits K)).length - 1) - (opsBits K).length = 0 by omega, List.take_zero, List.append_nil]
theorem opv_cells (o : OpD) : ∀ u ∈ opv o, u.oneCell' = true := by
  intro u hu
  simp [opv] at hu
  rcases hu with rfl | rfl | rfl | rfl <;> rfl
theorem opsv_snoc (l : List OpD) (o : OpD) : opsv (l ++ [o]) = opsv l ++ opv o := by simp [opsv]
theorem obit_len (o : OpD) (ho : o.ok) (hf : o.fits = true) : (obit o).length ≤ 80 := by
  have h := lay_len ⟨[], 0⟩ o ho
  rw [lay_fits hf] at h
  simpa using h
theorem opsBits_len (l : List OpD) (h : ∀ o ∈ l, o.ok ∧ o.fits = true) : (opsBits l).length ≤ 80 * l.length := by
  induction l with
  | nil => simp [opsBits]
  | cons o l ih =>
    have h1 := obit_len o (h o (by simp)).1 (h o (by simp)).2
    have h2 := ih (fun p hp => h p (by simp [hp]))
    rw [opsBits_cons, List.length_append, List.length_cons]
    omega
theorem opsBits_drop (l : List OpD) (j : Nat) (h : j < l.length) : opsBits (l.drop j) = obit l[j] ++ opsBits (l.drop (j + 1)) := by
  rw [List.drop_eq_getElem_cons h, opsBits_cons]
def keptOf (l : List OpD) (k : Nat) : List OpD := (l.take k).filter fun o => o.fits
theorem keptOf_step (l : List OpD) (k : Nat) (h : k < l.length) : keptOf l (k + 1) = if l[k].fits then keptOf l k ++ [l[k]] else keptOf l k := by
  unfold keptOf
  rw [List.take_succ_eq_append_getElem h, List.filter_append]
  split
  · rename_i hf; rw [List.filter_cons_of_pos (by simpa using hf)]; rfl
  · rename_i hf; rw [List.filter_cons_of_neg (by simpa using hf), List.filter_nil, List.append_nil]
theorem keptOf_len (l : List OpD) (k : Nat) : (keptOf l k).length ≤ k := Nat.le_trans (List.length_filter_le _ _) (List.length_take_le _ _)
theorem keptOf_all (l : List OpD) (k : Nat) (h : ∀ o ∈ l, o.ok) : ∀ o ∈ keptOf l k, o.ok ∧ o.fits = true := by
  intro o ho
  obtain ⟨h1, h2⟩ := List.mem_filter.1 ho
  exact ⟨h o (List.mem_of_mem_take h1), h2⟩

theorem ops_cells' {w : World} {g off n c : Nat} {l : List OpD} {k : Nat} (h : SliceIs w 4 (.slice (some ⟨g, off, none⟩) n c) l.length (opsv l)) (hk : k < l.length) :
    w.cell? ⟨g, off + k * 4, none⟩ = some (.int .i64 l[k].d) ∧ w.cell? ⟨g, off + k * 4 + 1, none⟩ = some (.int .i64 l[k].on) ∧
      w.cell? ⟨g, off + k * 4 + 2, none⟩ = some (.int .u64 l[k].x) ∧ w.cell? ⟨g, off + k * 4 + 3, none⟩ = some (.int .i64 l[k].n) := by
  obtain ⟨g', off', c', hv, _, _, h0, h1, h2, h3⟩ := ops_cells h hk
  simp only [Value.slice.injEq, Option.some.injEq, Addr.mk.injEq] at hv
  obtain ⟨⟨rfl, rfl, _⟩, _, _⟩ := hv
  exact ⟨h0, h1, h2, h3⟩

set_option maxRecDepth 100000 in
set_option maxHeartbeats 4000000 in
theorem BitsBack_c (v : Value) (l : List OpD) (w : World) (F : List HProp) (H : Holds w F) (hs : Sees F 4 v l.length (opsv l)) (hl : ∀ o ∈ l, o.ok) :
    Calls Try.prog 7 #[v] w (Ret w (.bool true) F) := by
  have hsh : ∃ a c, v = .slice a l.length c := by
    rcases (hs w H).2 with ⟨h, h'⟩ | ⟨a, c, h, _⟩
    · rw [h']; exact ⟨_, _, h⟩
    · exact ⟨_, _, h⟩
  obtain ⟨a0, cap0, hv⟩ := hsh
  rw [hv] at hs ⊢
  clear hv
  obtain ⟨i0, hi, hz0, hz1, hz2⟩ := info_parts info_Op
  obtain ⟨i1, hj, hy0, hy1, hy2⟩ := info_parts info_u8
  have HH := Holds.own_nil (E := 37) (s := 4) (new_writer H)
  go_enter Try.func7, Try.ntmps7
  go_wp2
  go_loopw [4, 5] (fun s4 s5 wr => ∃ (k : Nat) (a : Option Addr) (c : Nat), k ≤ 400 ∧ k ≤ l.length ∧ s4 = .slice a (keptOf l k).length c ∧ s5 = .int .i64 k ∧
    Holds wr (own 37 4 (.slice a (keptOf l k).length c) (keptOf l k).length (opsv (keptOf l k)) :: wS w.heap.size ⟨opsBits (keptOf l k), 0⟩ :: F) ∧ Str w wr) (fun _ s5 _ => (1000 - intOf s5).toNat)
  case atStart => exact ⟨0, none, 0, by omega, by omega, rfl, rfl, HH, ((Str.refl w).alloc _)⟩
  case round =>
    obtain ⟨k, ak, ck, hk1, hk2, rfl, rfl, Hr, Sr⟩ := hrel
    by_cases hkn : k < l.length ∧ k < 400
    · obtain ⟨hkn, hk4⟩ := hkn
      obtain ⟨g, off, cap, hv, hcap, hcm, c0, c1, c2, c3⟩ := ops_cells (hs wr Hr.tail.tail) hkn
      have hok := hl _ (List.getElem_mem hkn)
      have hcap' := hcm
      unfold maxLen at hcap'
      simp only [Value.slice.injEq] at hv
      obtain ⟨rfl, _, rfl⟩ := hv
      have hst := keptOf_step l k hkn
      have hkl := keptOf_len l k
      have hbl := opsBits_len _ (keptOf_all l k hl)
      obtain ⟨o, ho⟩ : ∃ o, o = l[k] := ⟨_, rfl⟩
      obtain ⟨K, hK⟩ : ∃ K, K = keptOf l k := ⟨_, rfl⟩
      rw [← ho] at c0 c1 c2 c3 hok hst
      rw [← hK] at hst hkl hbl Hr
      replace ho := Lib.hid ho
      replace hst := Lib.hid hst
      rw [← hK]
      replace hK := Lib.hid hK
      have hkf := fits1_c o hok wr _ Hr
      unfold opa at hkf
      replace hkf := Lib.hid hkf
      go_wp2_with fail
      refine hkf.out.mono ?_
      rintro e w1 ⟨rfl, H1, S1⟩
      by_cases hf : o.fits = true
      · rw [hf] at hst ⊢
        obtain ⟨c0, c1, c2, c3⟩ := ops_cells' (hs w1 H1.tail.tail) hkn
        rw [← ho.out] at c0 c1 c2 c3
        have hkp := put1_c w.heap.size o hok ⟨opsBits K, 0⟩ w1 _ H1.swap (by simp only []; omega)
        unfold opa at hkp
        replace hkp := Lib.hid hkp
        go_wp2_with fail
        refine hkp.out.mono ?_
        rw [lay_fits hf]
        rintro e w2 ⟨rfl, H2, S2⟩
        obtain ⟨c0, c1, c2, c3⟩ := ops_cells' (hs w2 H2.tail.tail) hkn
        rw [← ho.out] at c0 c1 c2 c3
        have hcl := opv_cells o
        replace hcl := Lib.hid hcl
        go_wp2_with (at_builtin; refine wpList_append_sl rfl _ _ _ rfl i0 (.agg #[.int .i64 0, .int .i64 0, .int .u64 0, .int .i64 0]) Try.underlying34 hi hz0 hz1 hz2 rfl (by decide) rfl (x := .slice (some ⟨w2.heap.size, 0, none⟩) 1 1) rfl (H2.swap.alloc' _) (m := 1) (news := opv o) (slice_new w2 (opv o).toArray _ _ 4 1 rfl (by decide)) hcl.out (by omega) (by unfold maxLen; omega) ?_; intro v3 w3 H3 S3; obtain ⟨a3, k3, rfl⟩ := own_shape H3)
        go_roundw
        case rel =>
          replace hst := hst.out
          simp only [if_true] at hst
          replace hst := Lib.hid hst
          refine ⟨k + 1, a3, k3, by omega, by omega, ?_, by congr 1, ?_, ((Sr.trans S1).trans S2).alloc _ |>.trans S3⟩
          · rw [hst.out]; simp
          · rw [hst.out, opsv_snoc, List.length_append, opsBits_snoc]; exact H3
        case measure => (simp [intOf] <;> omega)
      · have hf' : o.fits = false := by simpa using hf
        rw [hf'] at hst ⊢
        go_wp2_with fail
        go_roundw
        case rel =>
          replace hst := hst.out
          simp only [Bool.false_eq_true, if_false] at hst
          replace hst := Lib.hid hst
          refine ⟨k + 1, ak, ck, by omega, by omega, ?_, by congr 1, ?_, Sr.trans S1⟩
          · rw [hst.out]
          · rw [hst.out]; exact H1
        case measure => (simp [intOf] <;> omega)
    · have hkk : keptOf l k = keptOf l 400 := by
        unfold keptOf
        by_cases h : k < 400
        · rw [List.take_of_length_le (show l.length ≤ k by omega), List.take_of_length_le (show l.length ≤ 400 by omega)]
        · rw [show k = 400 by omega]
      have hall := keptOf_all l 400 hl
      have hkl := keptOf_len l 400
      have hbl := opsBits_len _ hall
      rw [hkk] at Hr ⊢
      obtain ⟨K, hK⟩ : ∃ K, K = keptOf l 400 := ⟨_, rfl⟩
      rw [← hK] at hall hkl hbl Hr ⊢
      clear hK hkk
      obtain ⟨M, hM⟩ : ∃ M, M = opsBits K := ⟨_, rfl⟩
      rw [← hM] at Hr hbl
      replace hM := Lib.hid hM
      have hpl : (pack M).length ≤ 4001 := by rw [length_pack]; omega
      have hMl : M.length ≤ 32000 := by omega
      have hcase : k < l.length ∨ ¬ k < l.length := by omega
      rcases hcase with hkl | hkl
      all_goals
        go_wp2_with fail
        refine (wDone_ok _ _ _ _ Hr.swap rfl (by simp only []; omega)).mono ?_
        rintro e w1 ⟨va, rfl, H1, S1⟩
        obtain ⟨ab, cb, rfl⟩ := own_shape H1
        have kn := wLen_c _ _ w1 _ H1.swap
        simp only [] at kn
        replace kn := Lib.hid kn
        have hp1 : (pack M).length * 8 ≤ M.length + 7 := by rw [length_pack]; omega
        have hp2 : M.length ≤ (pack M).length * 8 := by rw [length_pack]; omega
        have hcond : (((pack M).length : Int) != ((M.length : Int) + 7) / 8) = false := by rw [length_pack]; simp
        replace hp1 := Lib.hid hp1
        replace hp2 := Lib.hid hp2
        go_wp2_with (first | (go_at_call 17; refine (num_c _ _).mono ?_; rintro e w' ⟨rfl, hw'⟩; obtain rfl := hw'.symm) | (go_at_call 11; refine kn.out.mono ?_; rintro e w' ⟨rfl, hw'⟩; obtain rfl := hw'.symm) | fail)
        clear hcond
        refine (works_c w1 _ H1).mono ?_
        rintro e w4 ⟨rfl, H4, S4⟩
        go_wp2_with fail
        refine (From_c _ _ w4 _ H4 H4.own_is (pack_lt M) (by omega)).mono ?_
        rintro e w5 ⟨rb, rfl, H5, S5⟩
        have H6 := own_empty H5
        have hx6 := H5.tail.own_is.alloc (.cells #[] 5)
        go_wp2_with (first | (at_builtin; refine wpList_append_sl rfl _ _ _ rfl i1 (.int .u8 0) Try.underlying25 hj hy0 hy1 hy2 rfl (by decide) rfl rfl H6 hx6 bv_cell (by omega) (by unfold maxLen; omega) ?_; intro v7 w7 H7 S7; rw [Nat.zero_add, List.nil_append] at H7; obtain ⟨a7, k7, rfl⟩ := own_shape H7) | (at_builtin; refine wpList_append_sl rfl _ _ _ rfl i1 (.int .u8 0) Try.underlying25 hj hy0 hy1 hy2 rfl (by decide) rfl (x := .slice (some ⟨w7.heap.size, 0, none⟩) 1 1) rfl (H7.alloc' _) (m := 1) (news := [.int .u8 0]) (slice_new w7 _ _ _ 1 1 rfl (by decide)) (by simp [Value.oneCell']) (by omega) (by unfold maxLen; omega) ?_; intro v8 w8 H8 S8; replace H8 := own_more H8) | fail)
        refine (From_c _ _ w8 _ H8 H8.own_is (pack_lt' M) (by rw [List.length_append, List.length_singleton]; omega)).mono ?_
        rintro e w9 ⟨sb, rfl, H9, S9⟩
        obtain ⟨sp, hsp⟩ : ∃ sp, sp = List.replicate ((8 - M.length % 8) % 8) false := ⟨_, rfl⟩
        have hcond : (((M.length : Int) + (sp.length : Int)) != 8 * ((pack M).length : Int)) = false := by
          have : sp.length + M.length = 8 * (pack M).length := by rw [hsp, List.length_replicate, length_pack]; omega
          simp
          omega
        have hsl : sp.length + M.length ≤ 8 * (pack M).length := by rw [hsp, List.length_replicate, length_pack]; omega
        have hsl' : 8 * (pack M).length ≤ sp.length + M.length := by rw [hsp, List.length_replicate, length_pack]; omega
        have hup : unpack (pack M) = M ++ sp := by rw [unpack_pack, hsp]
        rw [unpack_append, hup, List.append_assoc] at H9
        replace H9 := H9.swap.tail
        have hupp := hup
        replace hup := Lib.hid hup
        replace hsp := Lib.hid hsp
        have S10 := ((((((Sr.trans S1).trans S4).trans S5).alloc (.cells #[] 5)).trans S7).alloc (.cells #[.int .u8 0] 5)).trans S8 |>.trans S9
        clear hupp H1 H4 H5 H6 H7 H8 hx6 S1 S4 S5 S7 S8 S9 Hr Sr HH kn
        have kL := rLeft_c rb _ w9 _ H9.swap
        simp only [List.length_append] at kL
        replace kL := Lib.hid kL
        go_wp2_with (first | (go_at_call 20; (with_reducible refine kL.out.mono ?_); rintro e w' ⟨rfl, m, rfl⟩) | fail)
        replace H9 := H9.drewN m
        replace S10 := S10.drewN m
        obtain ⟨sq, hsq⟩ : ∃ sq, sq = sp ++ unpack [0] := ⟨_, rfl⟩
        rw [← hsq] at H9
        replace hsq := Lib.hid hsq
        replace hsl := Lib.hid hsl
        replace hsl' := Lib.hid hsl'
        clear hcond
        go_wp2_with fail
        go_loopw [10] (fun s10 wl => ∃ (j : Nat), j ≤ K.length ∧ s10 = .int .i64 j ∧
          Holds wl (rS sb ⟨opsBits (K.drop j) ++ sq, 0⟩ :: rS rb ⟨opsBits (K.drop j) ++ sp, 0⟩ :: own 5 1 (.slice ab (pack M).length cb) (pack M).length (bv (pack M)) :: wS w.heap.size ⟨M, 0⟩ :: own 37 4 (.slice ak K.length ck) K.length (opsv K) :: F) ∧ Str w wl) (fun s10 _ => (1000 - intOf s10).toNat)
        case atStart => exact ⟨0, by omega, rfl, by rw [List.drop_zero, ← hM.out]; exact H9, S10⟩
        case round =>
          clear H9 S10 kL
          obtain ⟨j, hj, rfl, Hr, Sr⟩ := hrel
          by_cases hjn : j < K.length
          · obtain ⟨g, off, cap, hv, hcap, hcm, c0, c1, c2, c3⟩ := ops_cells Hr.tail.tail.tail.tail.own_is hjn
            obtain ⟨hok, hf⟩ := hall _ (List.getElem_mem hjn)
            have hcap' := hcm
            unfold maxLen at hcap'
            simp only [Value.slice.injEq] at hv
            obtain ⟨rfl, _, rfl⟩ := hv
            have hAB := opsBits_drop K j hjn
            obtain ⟨o, ho⟩ : ∃ o, o = K[j] := ⟨_, rfl⟩
            rw [← ho] at c0 c1 c2 c3 hok hf hAB
            rw [hAB, List.append_assoc, List.append_assoc] at Hr
            clear hAB
            replace ho := Lib.hid ho
            have hkg := got1_c rb o hok _ _ _ Hr.swap
            rw [got_fits hf hok] at hkg
            unfold opa at hkg
            replace hkg := Lib.hid hkg
            go_wp2_with fail
            refine hkg.out.mono ?_
            rintro e w1 ⟨rfl, H1, S1⟩
            obtain ⟨c0, c1, c2, c3⟩ := ops_cells' H1.tail.tail.tail.tail.own_is hjn
            rw [← ho.out] at c0 c1 c2 c3
            have hkh := got1_c sb o hok _ w1 _ H1.swap
            rw [got_fits hf hok] at hkh
            unfold opa at hkh
            replace hkh := Lib.hid hkh
            go_wp2_with fail
            refine hkh.out.mono ?_
            rintro e w2 ⟨rfl, H2, S2⟩
            go_wp2_with fail
            go_roundw
            case rel => exact ⟨j + 1, by omega, by congr 1, H2, (Sr.trans S1).trans S2⟩
            case measure => (simp [intOf] <;> omega)
          · have hdr : opsBits (K.drop j) = [] := by rw [List.drop_eq_nil_of_le (by omega)]; rfl
            rw [hdr, List.nil_append, List.nil_append] at Hr
            have hE0 : (⟨sp, 0⟩ : Rs).end_ = 0 := by rw [hsp.out]; exact end_spare _ (by omega)
            have hE14 : (⟨sq, 0⟩ : Rs).end_ = 14 := by
              have : 8 ≤ sq.length := by rw [hsq.out, List.length_append, length_unpack]; simp
              unfold Rs.end_
              simp only [ne_eq, not_true_eq_false, if_false, if_pos this]
            have kE1 := rEnd_c rb ⟨sp, 0⟩ _ _ Hr.swap
            have kE2 := fun n => rEnd_c sb ⟨sq, 0⟩ _ _ (Hr.drewN n)
            have kE3 := fun n m => rEnd_c sb ⟨sq, 0⟩ _ _ ((Hr.drewN n).drewN m)
            have kL1 := fun n => rLeft_c rb ⟨sp, 0⟩ _ _ (Hr.swap.drewN n)
            have kN1 := fun n => wLen_c w.heap.size ⟨M, 0⟩ _ _ (Hr.tail.tail.swap.drewN n)
            have kN2 := fun n m => wLen_c w.heap.size ⟨M, 0⟩ _ _ ((Hr.tail.tail.swap.drewN n).drewN m)
            rw [hE0] at kE1
            simp only [hE14] at kE2 kE3
            simp only [] at kL1 kN1 kN2
            replace kE1 := Lib.hid kE1
            replace kE3 := Lib.hid kE3
            replace kN2 := Lib.hid kN2
            replace kE2 := Lib.hid kE2
            replace kL1 := Lib.hid kL1
            replace kN1 := Lib.hid kN1
            clear hE0 hE14 hdr
            have hcond : ((sp.length : Int) != 8 * ((pack M).length : Int) - (M.length : Int)) = false := by
              have h1 := hsl.out
              have h2 := hsl'.out
              simp
              omega
            go_upto_region 23 with (first | (go_at_call 17; refine (num_c _ _).mono ?_; rintro e w' ⟨rfl, hw'⟩; obtain rfl := hw'.symm) | (go_at_call 21; (with_reducible refine kE1.out.mono ?_); rintro e w' ⟨rfl, m, rfl⟩) | (go_at_call 20; (with_reducible refine (kL1.out _).mono ?_); rintro e w' ⟨rfl, m2, rfl⟩) | (go_at_call 11; (with_reducible refine (kN1.out _).mono ?_); rintro e w' ⟨rfl, hw'⟩; obtain rfl := hw'.symm) | (go_at_call 11; (with_reducible refine (kN2.out _ _).mono ?_); rintro e w' ⟨rfl, hw'⟩; obtain rfl := hw'.symm) | (go_at_call 21; (with_reducible refine (kE2.out _).mono ?_); rintro e w' ⟨rfl, m3, rfl⟩) | (go_at_call 21; (with_reducible refine (kE3.out _ _).mono ?_); rintro e w' ⟨rfl, m3, rfl⟩) | fail)
            clear hcond kE1 kE2 kE3 kL1 kN1 kN2
            by_cases hN0 : (pack M).length = 0
            · go_wp2_with fail
              refine bodyPost_ret (results_tmp rfl _ _ _) rfl ⟨rfl, Hr.tail.tail.tail.tail.tail, ?_⟩
              first | exact Sr.drewN _ | exact (Sr.drewN _).drewN _ | exact ((Sr.drewN _).drewN _).drewN _
            · have hN1 : 0 < (pack M).length := by omega
              obtain ⟨g8, o8, c8, hv8, hcap8, hcm8, hc8⟩ := Hr.tail.tail.own_is.at hN1
              simp only [Value.slice.injEq] at hv8
              obtain ⟨rfl, _, rfl⟩ := hv8
              have hsl8 := Hr.tail.tail.own_is
              have hi8 := IntWalk.i64_in (((pack M).length : Int) - 1) (by omega)
              go_wp2_with fail
              have hB8 : ((pack M).take ((pack M).length - 1)).length = (pack M).length - 1 := by rw [List.length_take]; omega
              have hs9 : SliceIs (wr.drewN (m + m2 + m3)) 1 (.slice (some ⟨g8, o8, none⟩) ((pack M).length - 1) cb) ((pack M).take ((pack M).length - 1)).length (bv ((pack M).take ((pack M).length - 1))) := by
                rw [hB8, show bv ((pack M).take ((pack M).length - 1)) = (bv (pack M)).take ((pack M).length - 1) by simp [bv]]
                exact slice_take hsl8 (by omega) (by simp)
              have hcs := cut_start K (by rw [← hM.out]; exact hN1)
              rw [← hM.out] at hcs
              refine (From_c _ ((pack M).take ((pack M).length - 1)) _ _ (Hr.tail.tail.tail.tail.drewN (m + m2 + m3)) hs9 (fun x hx => pack_lt M x (List.mem_of_mem_take hx)) (by omega)).mono ?_
              rintro e w10 ⟨tb, rfl, H10, S10⟩
              replace hcs := Lib.hid hcs
              replace S10 := (Sr.drewN (m + m2 + m3)).trans S10
              clear Hr Sr hs9 hsl8 hc8
              go_wp2_with fail
              go_loopw [12] (fun s12 wq => ∃ (j : Nat) (st : Rs), j ≤ K.length ∧ s12 = .int .i64 j ∧ Cut (K.drop j) st ∧
                Holds wq (rS tb st :: own 37 4 (.slice ak K.length ck) K.length (opsv K) :: F) ∧ Str w wq) (fun s12 _ => (1000 - intOf s12).toNat)
              case atStart => exact ⟨0, _, by omega, rfl, hcs.out, H10, S10⟩
              case round =>
                clear H10 S10
                obtain ⟨j, st, hj, rfl, hcut, Hr, Sr⟩ := hrel
                replace hcut := Lib.hid hcut
                by_cases hjn : j < K.length
                · obtain ⟨g, off, cap, hv, hcap, hcm, c0, c1, c2, c3⟩ := ops_cells Hr.tail.own_is hjn
                  obtain ⟨hok, hf⟩ := hall _ (List.getElem_mem hjn)
                  have hcap' := hcm
                  unfold maxLen at hcap'
                  simp only [Value.slice.injEq] at hv
                  obtain ⟨rfl, _, rfl⟩ := hv
                  have hcut2 := hcut.out
                  rw [List.drop_eq_getElem_cons hjn] at hcut2
                  have hcut3 := hcut2.step hf hok
                  clear hcut2
                  obtain ⟨o, ho⟩ : ∃ o, o = K[j] := ⟨_, rfl⟩
                  rw [← ho] at c0 c1 c2 c3 hok hf hcut3
                  replace ho := Lib.hid ho
                  replace hcut3 := Lib.hid hcut3
                  have hkg := got1_c tb o hok _ _ _ Hr
                  unfold opa at hkg
                  replace hkg := Lib.hid hkg
                  go_wp2_with fail
                  refine hkg.out.mono ?_
                  rintro e w11 ⟨rfl, H11, S11⟩
                  go_wp2_with fail
                  go_roundw
                  case rel => exact ⟨j + 1, _, by omega, by congr 1, hcut3.out, H11, Sr.trans S11⟩
                  case measure => (simp [intOf] <;> omega)
                · have hcut2 := hcut.out
                  rw [List.drop_eq_nil_of_le (by omega)] at hcut2
                  have hE := hcut2.last
                  have kE1 := rEnd_c tb st _ _ Hr
                  rw [hE] at kE1
                  replace kE1 := Lib.hid kE1
                  clear hE hcut2
                  go_wp2_with (first | (go_at_call 17; refine (num_c _ _).mono ?_; rintro e w' ⟨rfl, hw'⟩; obtain rfl := hw'.symm) | (go_at_call 21; (with_reducible refine kE1.out.mono ?_); rintro e w' ⟨rfl, m, rfl⟩) | fail)
                  refine bodyPost_ret (results_tmp rfl _ _ _) rfl ⟨rfl, Hr.tail.tail.drewN _, Sr.drewN _⟩
end Go.Proofs.Ytngnfdlkkedaaaa
