/- The document's Pack and Done. -/
import Derived.Test.YtakaolcajbhkiaaGreatR2
import Derived.Test.YtakaolcajbhkiaaGreatSL2
import Derived.BigQuiet
namespace Go.Proofs.YtakaolcajbhkiaaGreat
set_option linter.unusedVariables false
set_option linter.unusedSimpArgs false
open Go.RowKit Go.SL Go.Fm

theorem take_succ_bit (L : List Bool) (i : Nat) (h : i < L.length) : L.take (i + 1) = L.take i ++ [L[i]] := by
  rw [List.take_add_one, List.getElem?_eq_getElem h]; rfl

theorem pack_nil' : pack [] = [] := rfl
theorem byte_bit (l : List Bool) (b : Bool) (h : l.length < 8) : byte (l ++ [b]) = byte l + b.toNat * 2 ^ (7 - l.length) := by
  rw [byte_append l [b] (by simp; omega)]
  simp [bval]
  congr 2; omega
theorem byte_val (l : List Bool) (b : Bool) (h : l.length < 8) (q : Nat) (hq : q = 2 ^ (7 - l.length)) : (((byte l : Nat) : Int) + (b.toNat : Int) * (q : Nat)) % 256 = (byte (l ++ [b]) : Nat) := by
  have h1 := byte_bit l b h
  have h2 := byte_lt (l ++ [b]) (by simp; omega)
  rw [← hq] at h1
  have h3 : ((byte (l ++ [b]) : Nat) : Int) = (byte l : Nat) + (b.toNat : Int) * (q : Nat) := by rw [h1]; push_cast; rfl
  rw [← h3]
  omega
/-- A round's end. -/
theorem pack_close {w1 : World} {g cap i : Nat} {rest : List Value} {L M : List Bool} {F : List HProp} (hil : i < L.length) (hMd : M = L.take i) (hcap : i / 8 + 1 ≤ cap) (hcm : cap ≤ maxLen) (hlen : i / 8 + 1 + rest.length = cap)
    (H : Holds w1 (pts g (.cells (bv (fullB M ++ [byte (tailB M)]) ++ rest).toArray 5 (0, 0)) :: F)) {q : Int} (hq : q = (byte (tailB M ++ [L[i]]) : Nat)) :
    (pack (L.take (i + 1))).length = i / 8 + 1 ∧ Holds ((w1.setCell ⟨g, i / 8, none⟩ (.int .u8 q)).drew) (own 5 1 (.slice (some ⟨g, 0, none⟩) (i / 8 + 1) cap) (pack (L.take (i + 1))).length (bv (pack (L.take (i + 1)))) :: F) := by
  subst hq
  have hM : M.length = i := by rw [hMd, List.length_take]; omega
  have e1 : pack (L.take (i + 1)) = fullB M ++ [byte (tailB M ++ [L[i]])] := by
    rw [take_succ_bit L i hil, ← hMd]
    exact pack_append M [L[i]] (by simp) (by simp; omega)
  have e2 : (pack (L.take (i + 1))).length = i / 8 + 1 := by rw [length_pack, List.length_take]; omega
  refine ⟨e2, ?_⟩
  rw [e2, e1]
  have H := (H.store (i / 8) (.int .u8 (byte (tailB M ++ [L[i]]) : Nat))).drew
  refine Holds.own_of_pts (rest := rest) H hcap hcm ?_ ?_ ?_
  · simp [length_fullB, hM]
  · simp [bv_append, bv_one, List.set_append, length_fullB, hM]
  · simp [length_fullB, hM]; omega
set_option maxRecDepth 100000 in
set_option maxHeartbeats 2000000 in
theorem rwPack_c (v : Value) (L : List Bool) (w : World) (F : List HProp) (H : Holds w F) (hS : Sees F 1 v L.length (bv (nums L))) (hL : L.length ≤ 10000000000) :
    Calls Tryz.prog 85 #[v] w (RetV w (fun v' => own 5 1 v' (pack L).length (bv (pack L)) :: F)) := by
  obtain ⟨i0, hi, hz0, hz1, hz2⟩ := info_parts info_u8
  have hvs : ∃ a c, v = .slice a L.length c := by
    obtain ⟨_, h⟩ := hS w H
    rcases h with ⟨h, h'⟩ | ⟨ad, cap, h, _⟩
    · exact ⟨_, _, h.trans (by rw [h'])⟩
    · exact ⟨_, _, h⟩
  obtain ⟨av, cv, rfl⟩ := hvs
  go_enter Tryz.func85, Tryz.ntmps85
  go_wp2
  go_loopw [3, 4] (fun s3 s4 wl => ∃ (i : Nat) (a : Option Addr) (c : Nat), i ≤ L.length ∧ s3 = .slice a (pack (L.take i)).length c ∧ s4 = .int .i64 i ∧ Holds wl (own 5 1 (.slice a (pack (L.take i)).length c) (pack (L.take i)).length (bv (pack (L.take i))) :: F) ∧ Str w wl) (fun _ s4 _ => ((L.length : Int) - intOf s4).toNat)
  case atStart => exact ⟨0, none, 0, by omega, by rw [List.take_zero, pack_nil']; rfl, rfl, by rw [List.take_zero, pack_nil']; exact H.own_nil, Str.refl w⟩
  case round =>
    clear H
    obtain ⟨i, a, c, hiL, rfl, rfl, Hi, Si⟩ := hrel
    by_cases hil : i < L.length
    · have hilE : (i : Int) < (L.length : Int) := by omega
      obtain ⟨M, hMd⟩ : ∃ M, M = L.take i := ⟨_, rfl⟩
      have hM : M.length = i := by rw [hMd, List.length_take]; omega
      rw [← hMd] at Hi ⊢
      replace hMd := Lib.hid hMd
      obtain ⟨gE, oE, capE, hvE, hcE, hcmE, hcellE⟩ := (hS wr Hi.tail).at (by omega)
      simp only [Value.slice.injEq] at hvE
      obtain ⟨rfl, _, rfl⟩ := hvE
      by_cases h8 : i % 8 = 0
      · have e8 : (pack M).length = i / 8 := by rw [length_pack]; omega
        rw [e8] at Hi ⊢
        have E8 := Lib.hid e8
        clear e8
        have h8i : (i : Int) % 8 = 0 := by omega
        go_upto_region 7 with (at_builtin; refine wpList_append_sl rfl _ _ _ rfl i0 (.int .u8 0) Tryz.underlying57 hi hz0 hz1 hz2 rfl (by decide) rfl (x := .slice (some ⟨wr.heap.size, 0, none⟩) 1 1) rfl (Hi.alloc' _) (m := 1) (news := [.int .u8 0]) (slice_new wr _ _ _ 1 1 rfl (by decide)) (by simp [Value.oneCell']) (by omega) (by unfold maxLen; omega) ?_; intro v1 w1 H1 S1; obtain ⟨g, cap, rest, rfl, hcap, hcm, hlen, hlen2, H1⟩ := H1.own_block (by omega))
        have e := pack_open M
        rw [if_pos (by rw [hM]; exact h8)] at e
        have hlen3 : i / 8 + 1 + rest.length = cap := by rw [List.length_append, length_bv, List.length_singleton, E8.out] at hlen2; omega
        have H2 : Holds w1 (pts g (.cells (bv (fullB M ++ [byte (tailB M)]) ++ rest).toArray 5 (0, 0)) :: F) := by rw [← e, bv_append]; exact H1
        have S2 := (Si.alloc _).trans S1
        clear H1 S1 Hi Si e
        replace hlen2 := Lib.hid hlen2
        have hq : (bv (fullB M ++ [byte (tailB M)]) ++ rest).toArray[i / 8]? = some (.int .u8 (byte (tailB M) : Nat)) := by
          simp only [List.getElem?_toArray]
          rw [bv_append, List.append_assoc, List.getElem?_append_right (by simp [length_fullB, hM])]
          simp [length_fullB, bv, hM]
        have c3 := H2.cell (i / 8)
        rw [hq] at c3
        have z3 := H2.free (i / 8)
        replace hq := Lib.hid hq
        have hq1 : ((i : Int) / 8).toNat = i / 8 := by omega
        have hm8 : (0 : Int) ≤ (i : Int) % 8 := by omega
        have hm9 : (i : Int) % 8 < 8 := by omega
        obtain ⟨gF, oF, capF, hvF, hcF, hcmF, hcellF⟩ := (hS _ H2.tail).at (by omega)
        simp only [Value.slice.injEq, Option.some.injEq, Addr.mk.injEq] at hvF
        obtain ⟨⟨rfl, rfl, _⟩, _, rfl⟩ := hvF
        unfold maxLen at hcmE
        replace hcm := Lib.hid hcm
        have hcm2 : cap ≤ 9223372036854775807 := by have := hcm.out; unfold maxLen at this; omega
        have dE := hcellF i (.int .u8 ((L[i]'hil).toNat : Nat)) (by simp [bv, nums, hil])
        clear hcellE hcellF
        go_region
        go_wp2
        go_roundw
        case rel =>
          have hb := byte_val (tailB M) (L[i]'hil) (by rw [length_tailB]; omega) 128 (by rw [length_tailB, hM, h8])
          obtain ⟨e2, H3⟩ := pack_close hil hMd.out hcap hcm.out hlen3 H2 hb
          exact ⟨i + 1, some ⟨g, 0, none⟩, cap, by omega, by rw [e2], rfl, by rw [e2] at H3 ⊢; exact H3, ((S2.setCell _ _).drew)⟩
        case measure => (simp [intOf] <;> omega)
      · have h8i : ((i : Int) % 8 == 0) = false := beq_eq_false_iff_ne.2 (by omega)
        have e8 : (pack M).length = i / 8 + 1 := by rw [length_pack]; omega
        have H0 := Hi
        rw [e8] at H0 ⊢
        obtain ⟨g, cap, rest, hvq, hcap, hcm, hlen2, hlen4, H1⟩ := H0.own_block (by omega)
        simp only [Value.slice.injEq] at hvq
        obtain ⟨rfl, _, rfl⟩ := hvq
        have e := pack_open M
        rw [if_neg (by rw [hM]; exact h8)] at e
        have hlen3 : i / 8 + 1 + rest.length = c := by rw [length_bv, e8] at hlen4; omega
        have H2 : Holds wr (pts g (.cells (bv (fullB M ++ [byte (tailB M)]) ++ rest).toArray 5 (0, 0)) :: F) := by rw [← e]; exact H1
        have S2 := Si
        replace e8 := Lib.hid e8
        replace h8 := Lib.hid h8
        go_upto_region 7 with fail
        clear H1 H0 Hi Si e
        have hq : (bv (fullB M ++ [byte (tailB M)]) ++ rest).toArray[i / 8]? = some (.int .u8 (byte (tailB M) : Nat)) := by
          simp only [List.getElem?_toArray]
          rw [bv_append, List.append_assoc, List.getElem?_append_right (by simp [length_fullB, hM])]
          simp [length_fullB, bv, hM]
        have c3 := H2.cell (i / 8)
        rw [hq] at c3
        have z3 := H2.free (i / 8)
        replace hq := Lib.hid hq
        have hq1 : ((i : Int) / 8).toNat = i / 8 := by omega
        have hm8 : (0 : Int) ≤ (i : Int) % 8 := by omega
        have hm9 : (i : Int) % 8 < 8 := by omega
        obtain ⟨gF, oF, capF, hvF, hcF, hcmF, hcellF⟩ := (hS _ H2.tail).at (by omega)
        simp only [Value.slice.injEq, Option.some.injEq, Addr.mk.injEq] at hvF
        obtain ⟨⟨rfl, rfl, _⟩, _, rfl⟩ := hvF
        unfold maxLen at hcmE
        replace hcm := Lib.hid hcm
        have hcm2 : c ≤ 9223372036854775807 := by have := hcm.out; unfold maxLen at this; omega
        have dE := hcellF i (.int .u8 ((L[i]'hil).toNat : Nat)) (by simp [bv, nums, hil])
        clear hcellE hcellF
        go_region
        go_wp2
        go_roundw
        case rel =>
          have hb := byte_val (tailB M) (L[i]'hil) (by rw [length_tailB]; omega) (2 ^ (7 - i % 8)) (by rw [length_tailB, hM])
          obtain ⟨e2, H3⟩ := pack_close hil hMd.out hcap hcm.out hlen3 H2 hb
          rw [Int.natCast_pow] at H3
          exact ⟨i + 1, some ⟨g, 0, none⟩, c, by omega, by rw [e2], rfl, by rw [e2] at H3 ⊢; exact H3, ((S2.setCell _ _).drew)⟩
        case measure => (simp [intOf] <;> omega)
    · obtain rfl : i = L.length := by omega
      have hnl : ¬ (L.length : Int) < (L.length : Int) := by omega
      have et : L.take L.length = L := List.take_length
      rw [et] at Hi ⊢
      replace et := Lib.hid et
      go_wp2_with fail
      go_ret
      exact ⟨_, rfl, Hi, Si⟩

set_option maxRecDepth 100000 in
theorem rwDone_ok (b : Nat) (s : Ws) (w : World) (F : List HProp) (H : Holds w (fS b s :: F)) (hb : s.bad = 0) (hL : s.L.length ≤ 10000000000) :
    Calls Tryz.prog 36 #[.pointer (some ⟨b, 0, none⟩)] w (fun e w' => ∃ v, e = .returned (.tuple #[v, .int .i64 0]) ∧ Holds w' (own 5 1 v (pack s.L).length (bv (pack s.L)) :: fS b s :: F) ∧ Str w w') := by
  obtain ⟨v, H1⟩ := fS_open H
  have c0 := H1.cell 0
  have c1 := H1.cell 1
  simp at c0 c1
  rw [hb] at c1
  go_enter Tryz.func36, Tryz.ntmps36
  go_wp2_with (go_at_call 85; refine (rwPack_c v s.L w _ H1 (fun w' h => h.swap.own_is) hL).mono ?_; rintro e w' ⟨v', rfl, H', S'⟩)
  go_ret2
  refine ⟨v', rfl, ?_, S'⟩
  have H2 := Holds.ord (l := [_, _, _]) H' [1, 2, 0] rfl
  simp only [List.map, List.getD_cons_zero, List.getD_cons_succ, List.cons_append, List.nil_append] at H2
  exact (fS_shut rfl rfl H2).swap

set_option maxRecDepth 100000 in
theorem rwDone_bad (b : Nat) (s : Ws) (w : World) (F : List HProp) (H : Holds w (fS b s :: F)) (hb : s.bad ≠ 0) :
    Calls Tryz.prog 36 #[.pointer (some ⟨b, 0, none⟩)] w (Ret w (.tuple #[.slice none 0 0, .int .i64 s.bad]) (fS b s :: F)) := by
  obtain ⟨v, H1⟩ := fS_open H
  have c0 := H1.cell 0
  have c1 := H1.cell 1
  simp at c0 c1
  have hb' : ((s.bad : Int) != 0) = true := by simp; omega
  go_enter Tryz.func36, Tryz.ntmps36
  go_wp2
  go_quiet (fail)
  rename_i nq
  go_wp2
  go_ret2
  exact ⟨rfl, H, (Str.refl w).drewN _⟩
end Go.Proofs.YtakaolcajbhkiaaGreat
