/- Rows of times: a zigzag is taken; Unpack, walked. Rows of times: Unpack, walked. -/
import Derived.Test.YtakaolcajbhkiaaGreatTmP
import Derived.Test.YtakaolcajbhkiaaGreatBR
import Derived.Laws.MakeOwn
namespace Go.Proofs.YtakaolcajbhkiaaGreat
open Go.RowKit Go.SL Go.Fm
set_option linter.unusedVariables false
set_option linter.unusedSimpArgs false

set_option maxRecDepth 100000 in
set_option maxHeartbeats 4000000 in
theorem tTake_c (b : Nat) (s : Rs) (w : World) (F : List HProp) (H : Holds w (rS b s :: F)) :
    Calls Tryz.prog 41 #[.pointer (some ⟨b, 0, none⟩)] w (Ret w (.tuple #[.int .u64 (s.tk.1.1 : Nat), .bool s.tk.1.2]) (rS b s.tk.2 :: F)) := by
  go_enter Tryz.func41, Tryz.ntmps41
  go_wp2
  go_loopw [4] (fun s4 wl => ∃ (j : Nat) (r : Rs), j ≤ 4 ∧ s4 = .int .i64 j ∧ tOnes 4 s = ((tOnes (4 - j) r).1 + j, (tOnes (4 - j) r).2) ∧ Holds wl (rS b r :: F) ∧ Str w wl) (fun s4 _ => (10 - intOf s4).toNat)
  case atStart => exact ⟨0, s, by omega, rfl, rfl, H, Str.refl w⟩
  case round =>
    obtain ⟨j, r, hj, rfl, hgo, Hr, Sr⟩ := hrel
    replace hgo := Lib.hid hgo
    by_cases hj4 : j < 4
    · go_wp2_with fail
      refine (rBit_c b r _ _ Hr).mono ?_
      rintro e w1 ⟨rfl, H1, S1⟩
      by_cases hb : r.bit.1 = true
      · rw [hb]
        have hnext : tOnes 4 s = ((tOnes (4 - (j + 1)) r.bit.2).1 + (j + 1), (tOnes (4 - (j + 1)) r.bit.2).2) := by
          rw [hgo.out, show 4 - j = (4 - (j + 1)) + 1 by omega, tOnes, if_pos hb]
          simp only [Prod.mk.injEq, and_true]
          omega
        replace hnext := Lib.hid hnext
        replace hb := Lib.hid hb
        go_wp2_with fail
        go_roundw
        case rel => exact ⟨j + 1, r.bit.2, by omega, by congr 1, hnext.out, H1, Sr.trans S1⟩
        case measure => (simp [intOf] <;> omega)
      · have hb' : r.bit.1 = false := by simpa using hb
        rw [hb']
        have hone : tOnes 4 s = (j, r.bit.2) := by
          rw [hgo.out, show 4 - j = (4 - (j + 1)) + 1 by omega, tOnes, if_neg hb]
          simp
        clear hb hb'
        obtain ⟨q, hq⟩ : ∃ q, q = r.bit.2 := ⟨_, rfl⟩
        rw [← hq] at H1 hone
        have htk := tk_of hone
        replace hone := Lib.hid hone
        replace hq := Lib.hid hq
        have hcj : j = 0 ∨ j = 1 ∨ j = 2 ∨ j = 3 := by omega
        rcases hcj with hcj | hcj | hcj | hcj
        · obtain rfl : j = 0 := hcj
          have htk0 : s.tk = ((0, true), q) := htk
          replace htk := Lib.hid htk
          replace htk0 := Lib.hid htk0
          rw [show ((0 : Nat) : Int) = 0 from rfl]
          go_wp2_with fail
          go_ret2
          rw [htk0.out]
          exact ⟨rfl, H1, Sr.trans S1⟩
        · obtain rfl : j = 1 := hcj
          have hbl : (q.bits 7).1 < 2 ^ 7 := bits_lt q 7 (by decide)
          rw [tkW1] at htk
          replace htk := Lib.hid htk
          rw [show ((1 : Nat) : Int) = 1 from rfl]
          go_wp2_with fail
          refine (rBits_c b 7 q _ _ H1).mono ?_
          rintro e w2 ⟨rfl, H2, S2⟩
          go_wp2_with fail
          go_ret2
          rw [htk.out]
          exact ⟨rfl, H2, (Sr.trans S1).trans S2⟩
        · obtain rfl : j = 2 := hcj
          have hbl : (q.bits 12).1 < 2 ^ 12 := bits_lt q 12 (by decide)
          rw [tkW2] at htk
          replace htk := Lib.hid htk
          rw [show ((2 : Nat) : Int) = 2 from rfl]
          go_wp2_with fail
          refine (rBits_c b 12 q _ _ H1).mono ?_
          rintro e w2 ⟨rfl, H2, S2⟩
          go_wp2_with fail
          go_ret2
          rw [htk.out]
          exact ⟨rfl, H2, (Sr.trans S1).trans S2⟩
        · obtain rfl : j = 3 := hcj
          have hbl : (q.bits 20).1 < 2 ^ 20 := bits_lt q 20 (by decide)
          rw [tkW3] at htk
          replace htk := Lib.hid htk
          rw [show ((3 : Nat) : Int) = 3 from rfl]
          go_wp2_with fail
          refine (rBits_c b 20 q _ _ H1).mono ?_
          rintro e w2 ⟨rfl, H2, S2⟩
          go_wp2_with fail
          go_ret2
          rw [htk.out]
          exact ⟨rfl, H2, (Sr.trans S1).trans S2⟩
    · obtain rfl : j = 4 := by omega
      have hone : tOnes 4 s = (4, r) := by
        rw [hgo.out]
        simp [tOnes]
      have htk := tk_of hone
      replace hone := Lib.hid hone
      rw [show ((4 : Nat) : Int) = 4 from rfl]
      go_wp2_with fail
      refine (rBits_c b 64 r _ _ Hr).mono ?_
      rintro e w2 ⟨rfl, H2, S2⟩
      by_cases hlt : (r.bits 64).1 < 1052801
      · rw [tkW4_no r hlt] at htk
        have hli : (((r.bits 64).1 : Nat) : Int) < 1052801 := by omega
        replace hlt := Lib.hid hlt
        replace htk := Lib.hid htk
        go_wp2_with fail
        go_ret2
        rw [htk.out]
        exact ⟨rfl, H2, Sr.trans S2⟩
      · rw [tkW4_ok r hlt] at htk
        have hli : ¬ (((r.bits 64).1 : Nat) : Int) < 1052801 := by omega
        obtain ⟨x, hx⟩ : ∃ x : Int, x = (((r.bits 64).1 : Nat) : Int) := ⟨_, rfl⟩
        rw [← hx] at hli
        rw [← hx]
        replace hx := Lib.hid hx
        replace hlt := Lib.hid hlt
        replace htk := Lib.hid htk
        go_wp2_with fail
        go_ret2
        rw [htk.out]
        refine ⟨?_, H2, Sr.trans S2⟩
        have := hx.out
        rw [← this]
        rfl
end Go.Proofs.YtakaolcajbhkiaaGreat

namespace Go.Proofs.YtakaolcajbhkiaaGreat
open Go.RowKit Go.SL Go.Fm
set_option linter.unusedVariables false
set_option linter.unusedSimpArgs false

theorem tk_lt (s : Rs) : s.tk.1.1 < 18446744073709551616 := by
  unfold Rs.tk
  have hle := tOnes_le 4 s
  have key : ∀ (n : Nat), n ≤ 4 → ∀ r : Rs, (tkW n r).1.1 < 18446744073709551616 := by
    intro n hn r
    have hcase : n = 0 ∨ n = 1 ∨ n = 2 ∨ n = 3 ∨ n = 4 := by omega
    have h7 : (r.bits 7).1 < 2 ^ 7 := bits_lt r 7 (by decide)
    have h12 : (r.bits 12).1 < 2 ^ 12 := bits_lt r 12 (by decide)
    have h20 : (r.bits 20).1 < 2 ^ 20 := bits_lt r 20 (by decide)
    have h64 : (r.bits 64).1 < 18446744073709551616 := bits_lt64 r 64 (by decide)
    rcases hcase with rfl | rfl | rfl | rfl | rfl
    · show (0 : Nat) < _; decide
    · rw [tkW1]; simp only []; omega
    · rw [tkW2]; simp only []; omega
    · rw [tkW3]; simp only []; omega
    · by_cases hlt : (r.bits 64).1 < 1052801
      · rw [tkW4_no r hlt]; show (0 : Nat) < 18446744073709551616; decide
      · rw [tkW4_ok r hlt]; exact h64
  exact key _ hle _
theorem undo_num (d u : Nat) (hu : u < 18446744073709551616) :
    IntKind.u64.wrap ((d : Int) + bits .xor .u64 ((u : Int) / 2) (IntKind.u64.wrap (-(bits .and .u64 (u : Int) 1)))) = ((u64 ((d : Int) + unzig u) : Nat) : Int) := by
  have hw : ∀ n : Int, 0 ≤ n → n < 2 ^ 64 → IntKind.u64.wrap n = n := fun n a b => IntWalk.u64_in n (by omega)
  have e : bits .and .u64 (u : Int) 1 = (u : Int) % 2 := bits_mask .u64 64 (by decide) hw 1 (by decide) _ (by omega) (by omega)
  have e1 : (u : Int) / 2 = ((u / 2 : Nat) : Int) := by omega
  rw [e, e1, ← u64_wrap]
  unfold unzig
  split
  · rename_i h
    have e2 : IntKind.u64.wrap (-((u : Int) % 2)) = ((18446744073709551615 : Nat) : Int) := by rw [u64_wrap]; unfold u64; omega
    rw [e2, u64_xor_nat _ _ (by omega) (by decide), xor_ones _ (by omega), u64_wrap, u64_wrap]
    unfold u64
    omega
  · rename_i h
    have e2 : IntKind.u64.wrap (-((u : Int) % 2)) = ((0 : Nat) : Int) := by rw [u64_wrap]; unfold u64; omega
    rw [e2, u64_xor_nat _ _ (by omega) (by decide), Nat.xor_zero]
theorem next_num (p : Int) (d : Nat) : wrap64 (IntKind.u64.wrap (IntKind.u64.wrap p + (d : Int))) = wrap64 (p + (d : Int)) := by
  rw [u64_wrap, u64_wrap p]
  unfold u64 wrap64
  omega

theorem info_i64 : (Tryz.prog.info? 2).map (fun i => (i.zero, i.size, i.bytes)) = some (some (.int .i64 0), 1, 8) := by kernel_rfl

/-- What Unpack tells. -/
def UnpackPost (w : World) (F : List HProp) (o : Option (List Int)) (e : Ending) (w' : World) : Prop :=
  match o with
  | some l => ∃ v', e = .returned (.tuple #[v', .int .i64 0]) ∧ Holds w' (own 2 1 v' l.length (iv l) :: F) ∧ Str w w'
  | none => e = .returned (.tuple #[.slice none 0 0, .int .i64 62]) ∧ Holds w' F ∧ Str w w'

set_option maxRecDepth 100000 in
theorem tUnpack_many (v : Value) (n : Int) (w : World) (F : List HProp) (H : Holds w F) (hn : n < 0 ∨ 4096 < n) :
    Calls Tryz.prog 23 #[v, .int .i64 n] w (Ret w (.tuple #[.slice none 0 0, .int .i64 60]) F) := by
  rcases hn with hn | hn
  · go_enter Tryz.func23, Tryz.ntmps23
    go_wp2
    go_ret2
    exact ⟨rfl, H, Str.refl w⟩
  · have hn0 : ¬ n < 0 := by omega
    go_enter Tryz.func23, Tryz.ntmps23
    go_wp2
    go_ret2
    exact ⟨rfl, H, Str.refl w⟩

set_option maxRecDepth 100000 in
set_option maxHeartbeats 4000000 in
theorem tUnpack_c (v : Value) (B : List Nat) (n : Nat) (w : World) (F : List HProp) (H : Holds w F) (hv : SliceIs w 1 v B.length (bv B)) (hB : ∀ x ∈ B, x < 256) (hl : B.length ≤ 1000000000000) (hn : n ≤ 4096) :
    Calls Tryz.prog 23 #[v, .int .i64 n] w (UnpackPost w F (tGet ⟨unpack B, 0⟩ n)) := by
  obtain ⟨i1, hj, hy0, hy1, hy2⟩ := info_parts info_i64
  have hmk := fun W => run_make (P := Tryz.prog) W 54 2 i1 (.int .i64 0) Tryz.underlying54 hj hy0 .i64 .i64 0 (n : Int) (by omega) (by omega) (by rw [hy2]; omega) (by omega)
  simp only [Int.toNat_natCast, hy1, Nat.mul_one, Int.toNat_zero] at hmk
  go_enter Tryz.func23, Tryz.ntmps23
  go_wp2_with fail
  refine (From_c v B _ _ H hv hB hl).mono ?_
  rintro e w1 ⟨rb, rfl, H1, S1⟩
  go_wp2_with fail
  have HM : Holds _ (own 2 1 (.slice (some ⟨w1.heap.size, 0, none⟩) 0 n) 0 (iv []) :: _) := (H1.alloc (.cells (madeCells (Value.int .i64 0).cells n) 2)).own_of_pts (rest := (madeCells (Value.int .i64 0).cells n).toList) (Nat.zero_le _) (by unfold maxLen; omega) rfl (by simp [iv]) (by simp [size_madeCells, iv])
  clear hmk
  go_loopw [7, 8, 24] (fun s7 s8 s24 wl => ∃ (j : Nat) (q : Rs) (d : Nat) (l : List Int) (a : Option Addr) (c : Nat), j ≤ n ∧ s7 = .slice a j c ∧ s8 = .int .u64 (d : Nat) ∧ s24 = .int .i64 j ∧ tUp ⟨unpack B, 0⟩ j = some (q, d, l) ∧
    Holds wl (own 2 1 (.slice a j c) j (iv l) :: rS rb q :: F) ∧ Str w wl) (fun _ _ s24 _ => (5000 - intOf s24).toNat)
  case atStart => exact ⟨0, _, 0, [], _, _, by omega, rfl, rfl, rfl, rfl, HM, S1.alloc _⟩
  case round =>
    clear HM H1
    obtain ⟨j, q, d, l, a, c, hj4, rfl, rfl, rfl, hup, Hr, Sr⟩ := hrel
    have hlen : l.length = j := tUp_len _ _ _ hup
    by_cases hjn : j < n
    · by_cases h0 : j = 0
      · have hj0 : ((j : Int) == 0) = true := by simp [h0]
        have hnil : l = [] := List.eq_nil_of_length_eq_zero (by omega)
        have hd0 : d = 0 := by
          rw [h0] at hup
          simp only [tUp, Option.some.injEq, Prod.mk.injEq] at hup
          exact hup.2.1.symm
        have hnext : tUp ⟨unpack B, 0⟩ (j + 1) = some ((q.bits 64).2, d, l ++ [wrap64 (q.bits 64).1]) := by
          show (tUp ⟨unpack B, 0⟩ j).bind tstep = _
          rw [hup, hnil, hd0]
          rfl
        replace hnext := Lib.hid hnext
        replace hup := Lib.hid hup
        replace h0 := Lib.hid h0
        replace hnil := Lib.hid hnil
        replace hd0 := Lib.hid hd0
        replace hlen := Lib.hid hlen
        go_wp2_with fail
        refine (rBits_c rb 64 q _ _ Hr.swap).mono ?_
        rintro e w2 ⟨rfl, H2, S2⟩
        go_wp2_with (at_builtin; refine wpList_append_sl rfl _ _ _ rfl i1 (.int .i64 0) Tryz.underlying54 hj hy0 hy1 hy2 rfl (by decide) rfl (x := .slice (some ⟨w2.heap.size, 0, none⟩) 1 1) rfl (H2.swap.alloc' _) (m := 1) (news := [.int .i64 (wrap64 ((q.bits 64).1 : Nat))]) (slice_new w2 _ _ _ 1 1 rfl (by decide)) (by simp [Value.oneCell']) (by omega) (by unfold maxLen; omega) ?_; intro v8 w8 H8 S8; obtain ⟨a8, k8, rfl⟩ := own_shape H8)
        go_roundw
        case rel => exact ⟨j + 1, _, d, _, a8, k8, by omega, rfl, rfl, by congr 1, hnext.out, by rw [iv_append]; exact H8, ((Sr.trans S2).alloc _).trans S8⟩
        case measure => (simp [intOf] <;> omega)
      · have hj0 : ((j : Int) == 0) = false := by simp; omega
        obtain ⟨g, cap, rest, hv9, hcap9, hcm9, hl9, hl9', H9⟩ := Hr.own_block (by omega)
        simp only [Value.slice.injEq] at hv9
        obtain ⟨rfl, _, rfl⟩ := hv9
        obtain ⟨p, hp⟩ : ∃ p, p = l.getD (j - 1) 0 := ⟨_, rfl⟩
        have hlast : l.getLast? = some p := by
          rw [List.getLast?_eq_getElem?, hlen, hp]
          simp [List.getD, List.getElem?_eq_getElem (show j - 1 < l.length by omega)]
        have hcell : ∀ (W : World) (G : List HProp), Holds W (own 2 1 (.slice (some ⟨g, 0, none⟩) j c) j (iv l) :: G) → W.cell? ⟨g, j - 1, none⟩ = some (.int .i64 p) := by
          intro W G hW
          have := hW.own_is.2
          rcases this with ⟨h, _⟩ | ⟨ad, cp, h, _, _, h3⟩
          · cases h
          · simp only [Value.slice.injEq, Option.some.injEq] at h
            obtain ⟨rfl, _, _⟩ := h
            have e := h3 (j - 1) _ (iv_at (by omega))
            rw [add_plain', Nat.zero_add, ← hp] at e
            exact e
        obtain ⟨u, hu⟩ : ∃ u, u = q.tk.1.1 := ⟨_, rfl⟩
        obtain ⟨ok, hok⟩ : ∃ ok, ok = q.tk.1.2 := ⟨_, rfl⟩
        have hul := tk_lt q
        rw [← hu] at hul
        obtain ⟨d', hd'⟩ : ∃ d', d' = Go.Fm.u64 ((d : Int) + unzig u) := ⟨_, rfl⟩
        obtain ⟨t, ht⟩ : ∃ t, t = wrap64 (p + (d' : Nat)) := ⟨_, rfl⟩
        have hnext : tUp ⟨unpack B, 0⟩ (j + 1) = if ok = true ∧ p < t then some (q.tk.2, d', l ++ [t]) else none := by
          show (tUp ⟨unpack B, 0⟩ j).bind tstep = _
          rw [hup]
          show tstep _ = _
          unfold tstep
          simp only [hlast]
          rw [← hu, ← hok, ← hd', ← ht]
        have hw1 := undo_num d u hul
        rw [← hd'] at hw1
        have hw2 := next_num p d'
        rw [← ht] at hw2
        have htr : -9223372036854775808 ≤ t ∧ t ≤ 9223372036854775807 := by rw [ht]; exact wrap64_range _
        have hli : (u : Int) < 18446744073709551616 := by omega
        have ix : ((j : Int) - 1).toNat = j - 1 := by omega
        have ix0 : (0 : Int) ≤ (j : Int) - 1 := by omega
        have ix1 : (j : Int) - 1 < (j : Int) := by omega
        obtain ⟨htr1, htr2⟩ := htr
        replace hnext := Lib.hid hnext
        replace hup := Lib.hid hup
        replace hlast := Lib.hid hlast
        replace hcell := Lib.hid hcell
        replace hp := Lib.hid hp
        replace ht := Lib.hid ht
        replace hd' := Lib.hid hd'
        replace hlen := Lib.hid hlen
        replace hw1 := Lib.hid hw1
        replace hw2 := Lib.hid hw2
        replace hul := Lib.hid hul
        clear hl9 hl9' H9
        have hT := tTake_c rb q _ _ Hr.swap
        rw [← hu, ← hok] at hT
        replace hu := Lib.hid hu
        replace hok := Lib.hid hok
        go_upto_region 12 with (go_at_call 41; refine hT.mono ?_; rintro e w2 ⟨rfl, H2, S2⟩)
        have hc2 := hcell.out _ _ H2.swap
        go_upto_region 13 with fail
        rw [hw1.out]
        go_upto_region 14 with fail
        rw [hw2.out]
        clear hli htr1 htr2
        by_cases hc : ok = true ∧ p < t
        · obtain ⟨rfl, hpt⟩ := hc
          have hn2 : tUp ⟨unpack B, 0⟩ (j + 1) = some (q.tk.2, d', l ++ [t]) := by rw [hnext.out, if_pos ⟨rfl, hpt⟩]
          replace hn2 := Lib.hid hn2
          go_wp2_with (at_builtin; refine wpList_append_sl rfl _ _ _ rfl i1 (.int .i64 0) Tryz.underlying54 hj hy0 hy1 hy2 rfl (by decide) rfl (x := .slice (some ⟨w2.heap.size, 0, none⟩) 1 1) rfl (H2.swap.alloc' _) (m := 1) (news := [.int .i64 t]) (slice_new w2 _ _ _ 1 1 rfl (by decide)) (by simp [Value.oneCell']) (by omega) (by unfold maxLen; omega) ?_; intro v8 w8 H8 S8; obtain ⟨a8, k8, rfl⟩ := own_shape H8)
          go_roundw
          case rel => exact ⟨j + 1, _, d', _, a8, k8, by omega, rfl, rfl, by congr 1, hn2.out, by rw [iv_append]; exact H8, ((Sr.trans S2).alloc _).trans S8⟩
          case measure => (simp [intOf] <;> omega)
        · have hn2 : tGet ⟨unpack B, 0⟩ n = none := by
            unfold tGet
            rw [tUp_none _ (j + 1) (by rw [hnext.out, if_neg hc]) n (by omega)]
            rfl
          replace hn2 := Lib.hid hn2
          have hcase : ok = false ∨ (ok = true ∧ ¬ p < t) := by
            cases ok
            · exact .inl rfl
            · exact .inr ⟨rfl, fun h => hc ⟨rfl, h⟩⟩
          rcases hcase with rfl | ⟨rfl, hpt⟩
          all_goals
            go_wp2_with fail
            go_ret2
            rw [hn2.out]
            exact ⟨rfl, H2.tail.tail, Sr.trans S2⟩
    · obtain rfl : j = n := by omega
      by_cases he : q.end_ = 0
      · have hg : tGet ⟨unpack B, 0⟩ j = some l := by
          unfold tGet
          rw [hup]
          show (if _ then _ else _) = _
          rw [if_pos he]
        have hE := rEnd_c rb q _ _ Hr.swap
        rw [he] at hE
        replace he := Lib.hid he
        replace hg := Lib.hid hg
        replace hup := Lib.hid hup
        go_wp2_with fail
        refine hE.mono ?_
        rintro e w2 ⟨rfl, m2, rfl⟩
        go_wp2_with fail
        go_ret2
        rw [hg.out]
        exact ⟨_, rfl, by rw [hlen]; exact Hr.swap.tail.drewN _, Sr.drewN _⟩
      · have hg : tGet ⟨unpack B, 0⟩ j = none := by
          unfold tGet
          rw [hup]
          show (if _ then _ else _) = _
          rw [if_neg he]
        have hE := rEnd_c rb q _ _ Hr.swap
        have hne : ((q.end_ : Int) != 0) = true := by simp; omega
        replace he := Lib.hid he
        replace hg := Lib.hid hg
        replace hup := Lib.hid hup
        go_wp2_with fail
        refine hE.mono ?_
        rintro e w2 ⟨rfl, m2, rfl⟩
        go_wp2_with fail
        go_ret2
        rw [hg.out]
        exact ⟨rfl, Hr.tail.tail.drewN _, Sr.drewN _⟩
end Go.Proofs.YtakaolcajbhkiaaGreat
