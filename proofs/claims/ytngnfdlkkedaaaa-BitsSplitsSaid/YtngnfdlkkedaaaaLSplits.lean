/- The law BitsSplits, walked. -/
import Derived.Test.YtngnfdlkkedaaaaLSplit0
namespace Go.Proofs.Ytngnfdlkkedaaaa
open Go.RowKit Go.SL Go.Fm

theorem wdt_le (o : OpD) : wdt o ≤ 64 := by unfold wdt; omega
theorem loww_le (o : OpD) : loww o ≤ wdt o := by
  unfold loww
  have := Int.emod_lt_of_pos o.on (show (0 : Int) < ((wdt o + 1 : Nat) : Int) by omega)
  omega
theorem wdt_eq (o : OpD) : o.n % 65 = (wdt o : Nat) := by unfold wdt; omega
theorem loww_eq (o : OpD) : o.on % ((wdt o : Nat) + 1) = (loww o : Nat) := by
  unfold loww
  have := Int.emod_nonneg o.on (show ((wdt o + 1 : Nat) : Int) ≠ 0 by omega)
  push_cast at *
  omega

theorem wrap_pow (n : Nat) (h : n < 64) : IntKind.u64.wrap (2 ^ n) = ((2 ^ n : Nat) : Int) := by
  have : 2 ^ n ≤ 2 ^ 63 := Nat.pow_le_pow_right (by decide) (by omega)
  have h63 : (2 : Nat) ^ 63 = 9223372036854775808 := by decide
  have e : ((2 ^ n : Nat) : Int) = 2 ^ n := by simp
  rw [← e]
  generalize 2 ^ n = z at *
  rw [IntWalk.u64_in _ (by omega)]
theorem wrap_pow_ne (n : Nat) (h : n < 64) : ¬ IntKind.u64.wrap (2 ^ n) = 0 := by
  rw [wrap_pow n h]
  have := Nat.two_pow_pos n
  omega

theorem numo_lt (o : OpD) (h : o.x < 18446744073709551616) : numo o < 2 ^ wdt o ∧ 2 ^ wdt o ≤ 18446744073709551616 := by
  have h1 := wdt_le o
  have h2 : 2 ^ wdt o ≤ 2 ^ 64 := Nat.pow_le_pow_right (by decide) h1
  have h64 : (2 : Nat) ^ 64 = 18446744073709551616 := by decide
  refine ⟨?_, by omega⟩
  unfold numo
  split
  · exact Nat.mod_lt _ (Nat.two_pow_pos _)
  · have : wdt o = 64 := by omega
    rw [this]
    omega
theorem put_bits (L : List Bool) (x n : Nat) (hn : n ≤ 64) (h : x < 2 ^ n) : (⟨L, 0⟩ : Ws).bits x (n : Int) = ⟨L ++ bitsOf x n, 0⟩ := by
  unfold Ws.bits
  rw [if_neg]
  · rfl
  · simp [wide]; omega
theorem obits_put (L : List Bool) (o : OpD) (h : o.x < 18446744073709551616) : (⟨L, 0⟩ : Ws).bits (numo o) ((wdt o : Nat) : Int) = ⟨L ++ obits o, 0⟩ := put_bits L _ _ (wdt_le o) (numo_lt o h).1
theorem numo_div (o : OpD) (h : numo o < 2 ^ wdt o) : numo o / 2 ^ loww o < 2 ^ (wdt o - loww o) := by
  rw [Nat.div_lt_iff_lt_mul (Nat.two_pow_pos _), ← Nat.pow_add, show wdt o - loww o + loww o = wdt o by have := loww_le o; omega]
  exact h
theorem lt_u64 {n : Nat} (h : n < 18446744073709551616) : (n : Int) < 18446744073709551616 := by omega
theorem cast_div_pow (a n : Nat) : (a : Int) / 2 ^ n = ((a / 2 ^ n : Nat) : Int) := by simp
theorem cast_bit (a j : Nat) : (((a : Int) / 2 ^ j).tmod 2 == 1) = a.testBit j := by
  rw [cast_div_pow, Int.tmod_eq_emod_of_nonneg (Int.natCast_nonneg _), Nat.testBit_eq_decide_div_mod_eq]
  generalize a / 2 ^ j = z
  rw [Bool.eq_iff_iff]
  simp
  omega
theorem allBits_snoc (l : List OpD) (k : Nat) (h : k < l.length) : allBits (l.take (k + 1)) = allBits (l.take k) ++ obits l[k] := by
  unfold allBits
  rw [List.take_succ_eq_append_getElem h, List.flatMap_append]
  simp
theorem allBits_drop (l : List OpD) (j : Nat) (h : j < l.length) (h' : j < 100) : allBits ((l.take 100).drop j) = obits l[j] ++ allBits ((l.take 100).drop (j + 1)) := by
  rw [List.drop_eq_getElem_cons (by simp; omega)]
  simp [allBits]
theorem take_front (o : OpD) (R : List Bool) (h : o.x < 18446744073709551616) : (⟨obits o ++ R, 0⟩ : Rs).bits ((wdt o : Nat) : Int) = (numo o, ⟨R, 0⟩) := by
  have h1 := wdt_le o
  have hl : (obits o).length = wdt o := by unfold obits; rw [length_bitsOf]
  have hb : bval (obits o) = numo o := by unfold obits; rw [bval_bitsOf, Nat.mod_eq_of_lt (numo_lt o h).1]
  unfold Rs.bits
  rw [if_neg (by omega), if_neg (by rw [List.length_append, hl]; omega), if_neg (by simp), Int.toNat_natCast, List.take_left' hl, List.drop_left' hl, hb]
theorem take_high (o : OpD) (R : List Bool) (h : o.x < 18446744073709551616) : (⟨obits o ++ R, 0⟩ : Rs).bits ((wdt o : Nat) - (loww o : Nat)) = (numo o / 2 ^ loww o, ⟨bitsOf (numo o) (loww o) ++ R, 0⟩) := by
  have h1 := wdt_le o
  have h2 := loww_le o
  have hs : obits o = bitsOf (numo o / 2 ^ loww o) (wdt o - loww o) ++ bitsOf (numo o) (loww o) := by
    unfold obits
    rw [← bitsOf_split, show wdt o - loww o + loww o = wdt o by omega]
  have e : ((wdt o : Nat) : Int) - (loww o : Nat) = ((wdt o - loww o : Nat) : Int) := by omega
  have hl : (bitsOf (numo o / 2 ^ loww o) (wdt o - loww o)).length = wdt o - loww o := length_bitsOf _ _
  unfold Rs.bits
  rw [hs, e, List.append_assoc, if_neg (by omega), if_neg (by rw [List.length_append, hl]; omega), if_neg (by simp), Int.toNat_natCast, List.take_left' hl, List.drop_left' hl, bval_bitsOf, Nat.mod_eq_of_lt (numo_div o (numo_lt o h).1)]
theorem take_low (o : OpD) (R : List Bool) : (⟨bitsOf (numo o) (loww o) ++ R, 0⟩ : Rs).bits ((loww o : Nat) : Int) = (numo o % 2 ^ loww o, ⟨R, 0⟩) := by
  have h1 := wdt_le o
  have h2 := loww_le o
  have hl : (bitsOf (numo o) (loww o)).length = loww o := length_bitsOf _ _
  unfold Rs.bits
  rw [if_neg (by omega), if_neg (by rw [List.length_append, hl]; omega), if_neg (by simp), Int.toNat_natCast, List.take_left' hl, List.drop_left' hl, bval_bitsOf]
theorem split_sum (o : OpD) (h : o.x < 18446744073709551616) :
    IntKind.u64.wrap (IntKind.u64.wrap (((numo o / 2 ^ loww o : Nat) : Int) * 2 ^ loww o) + ((numo o % 2 ^ loww o : Nat) : Int)) = (numo o : Nat) := by
  have h1 := numo_lt o h
  have h2 : numo o / 2 ^ loww o * 2 ^ loww o + numo o % 2 ^ loww o = numo o := Nat.div_add_mod' _ _
  have e : ((numo o / 2 ^ loww o : Nat) : Int) * 2 ^ loww o = ((numo o / 2 ^ loww o * 2 ^ loww o : Nat) : Int) := by simp
  rw [e]
  obtain ⟨a, ha⟩ : ∃ a, a = numo o / 2 ^ loww o * 2 ^ loww o := ⟨_, rfl⟩
  obtain ⟨b, hb⟩ : ∃ b, b = numo o % 2 ^ loww o := ⟨_, rfl⟩
  rw [← ha, ← hb] at h2 ⊢
  clear e ha hb
  obtain ⟨h1, h3⟩ := h1
  have h4 := Nat.lt_of_lt_of_le h1 h3
  rw [IntWalk.u64_in (a : Int) (by omega), IntWalk.u64_in ((a : Int) + b) (by omega)]
  omega
theorem allBits_len (l : List OpD) (k : Nat) : (allBits (l.take k)).length ≤ 64 * k := by
  have : ∀ m : List OpD, (allBits m).length ≤ 64 * m.length := by
    intro m
    induction m with
    | nil => simp [allBits]
    | cons o m ih =>
      have h1 : (obits o).length ≤ 64 := by unfold obits; rw [length_bitsOf]; exact wdt_le o
      simp only [allBits, List.flatMap_cons, List.length_append, List.length_cons] at *
      omega
  exact Nat.le_trans (this _) (Nat.mul_le_mul_left _ (List.length_take_le _ _))

set_option maxRecDepth 100000 in
set_option maxHeartbeats 4000000 in
theorem BitsSplits_c (v : Value) (l : List OpD) (w : World) (F : List HProp) (H : Holds w F) (hs : Sees F 4 v l.length (opsv l)) (hl : ∀ o ∈ l, o.ok) :
    Calls Try.prog 4 #[v] w (Ret w (.bool true) F) := by
  have hsh : ∃ a c, v = .slice a l.length c := by
    rcases (hs w H).2 with ⟨h, h'⟩ | ⟨a, c, h, _⟩
    · rw [h']; exact ⟨_, _, h⟩
    · exact ⟨_, _, h⟩
  obtain ⟨a0, cap0, hv⟩ := hsh
  rw [hv] at hs ⊢
  clear hv
  have HH := (new_writer (new_writer (new_writer H)))
  simp only [World.size_alloc] at HH
  go_enter Try.func4, Try.ntmps4
  go_wp2
  go_loopw [6, 7, 8, 9, 10, 11] (fun s6 s7 _ _ _ _ wr => ∃ (k : Nat), k ≤ 100 ∧ k ≤ l.length ∧ s6 = .int .i64 ((allBits (l.take k)).length : Nat) ∧ s7 = .int .i64 k ∧
    Holds wr (wS (w.heap.size + 1 + 1) ⟨allBits (l.take k), 0⟩ :: wS (w.heap.size + 1) ⟨allBits (l.take k), 0⟩ :: wS w.heap.size ⟨allBits (l.take k), 0⟩ :: F) ∧ Str w wr) (fun _ s7 _ _ _ _ _ => (200 - intOf s7).toNat)
  case atStart => exact ⟨0, by omega, by omega, rfl, rfl, HH, (((Str.refl w).alloc _).alloc _).alloc _⟩
  case round =>
    obtain ⟨k, hk1, hk2, rfl, rfl, Hr, Sr⟩ := hrel
    by_cases hkn : k < l.length ∧ k < 100
    · obtain ⟨hkn, hk100⟩ := hkn
      obtain ⟨g, off, cap, hv, hcap, hcm, c0, c1, c2, c3⟩ := ops_cells (hs wr Hr.tail.tail.tail) hkn
      obtain ⟨⟨_, _⟩, ⟨ho1, ho2⟩, hox, ⟨hn1, hn2⟩⟩ := hl _ (List.getElem_mem hkn)
      have hcap' := hcm
      unfold maxLen at hcap'
      simp only [Value.slice.injEq] at hv
      obtain ⟨rfl, _, rfl⟩ := hv
      obtain ⟨o, ho⟩ : ∃ o, o = l[k] := ⟨_, rfl⟩
      rw [← ho] at c0 c1 c2 c3 ho1 ho2 hox hn1 hn2
      replace ho := Lib.hid ho
      go_wp2_with fail
      refine (Within_c o.n 65 ⟨hn1, hn2⟩ (by omega) (by omega) _).mono ?_
      rw [wdt_eq]
      rintro e w' ⟨rfl, hw'⟩
      obtain rfl := hw'.symm
      have hwd := wdt_le o
      go_wp2_with fail
      refine (Within_c o.on _ ⟨ho1, ho2⟩ (by omega) (by omega) _).mono ?_
      rw [loww_eq]
      rintro e w' ⟨rfl, hw'⟩
      obtain rfl := hw'.symm
      have hlw := loww_le o
      go_upto_if 62 with fail
      go_cut [10] (fun s10 wc => s10 = .int .u64 (numo o : Nat) ∧ wc = wr)
      case first =>
        by_cases h64 : wdt o < 64
        · have hz := wrap_pow_ne (wdt o) h64
          go_wp2
          go_meet
          case rel => exact ⟨by unfold numo; rw [if_pos h64, wrap_pow _ h64]; simp, rfl⟩
        · go_wp2
          go_meet
          case rel => exact ⟨by unfold numo; rw [if_neg h64], rfl⟩
      case rest =>
        obtain ⟨rfl, hwc⟩ := hcut
        obtain rfl := hwc.symm
        have hnum := numo_lt o hox
        have hLk : (allBits (l.take k)).length ≤ 64 * k := allBits_len l k
        replace Hr := Hr.pull2
        go_wp2_with fail
        refine (wBits_c _ _ _ _ _ _ Hr (by omega) (by have := Nat.lt_of_lt_of_le hnum.1 hnum.2; omega) (by simp only []; omega)).mono ?_
        rw [Int.toNat_natCast, obits_put _ o hox]
        rintro e w1 ⟨rfl, H1, S1⟩
        replace H1 := H1.pull2
        go_upto_if 73 with fail
        go_cut [82] (fun _ wc => Holds wc (wS (w.heap.size + 1) ⟨allBits (l.take k) ++ obits o, 0⟩ :: wS w.heap.size ⟨allBits (l.take k) ++ obits o, 0⟩ :: wS (w.heap.size + 1 + 1) ⟨allBits (l.take k), 0⟩ :: F) ∧ Str wr wc)
        case first =>
          by_cases h64 : loww o < 64
          · have hz := wrap_pow_ne (loww o) h64
            have hlt1 := numo_div o hnum.1
            go_wp2_with fail
            rw [cast_div_pow, show ((wdt o : Nat) : Int) - (loww o : Nat) = ((wdt o - loww o : Nat) : Int) by omega]
            refine (wBits_c _ _ _ _ _ _ H1 (Int.natCast_nonneg _) (lt_u64 (Nat.lt_of_le_of_lt (Nat.div_le_self _ _) (Nat.lt_of_lt_of_le hnum.1 hnum.2))) (by simp only []; omega)).mono ?_
            rw [Int.toNat_natCast, put_bits _ _ _ (by omega) hlt1]
            rintro e w2 ⟨rfl, H2, S2⟩
            replace hlt1 := Lib.hid hlt1
            go_wp2_with fail
            rw [wrap_pow _ h64, ← Int.natCast_emod]
            refine (wBits_c _ _ _ _ _ _ H2 (Int.natCast_nonneg _) (lt_u64 (Nat.lt_of_le_of_lt (Nat.mod_le _ _) (Nat.lt_of_lt_of_le hnum.1 hnum.2))) (by simp; omega)).mono ?_
            rw [Int.toNat_natCast, put_bits _ _ _ (by omega) (Nat.mod_lt _ (Nat.two_pow_pos _))]
            rintro e w3 ⟨rfl, H3, S3⟩
            go_wp2_with fail
            go_meet
            case rel =>
              rw [List.append_assoc, bitsOf_mod _ _ _ (Nat.le_refl _), ← bitsOf_split, show wdt o - loww o + loww o = wdt o by omega] at H3
              exact ⟨H3, (S1.trans S2).trans S3⟩
          · have h64' : loww o = 64 := by omega
            have hw64 : wdt o = 64 := by omega
            go_wp2_with fail
            refine (wBits_c _ _ 64 _ _ _ H1 (by omega) (by have := Nat.lt_of_lt_of_le hnum.1 hnum.2; omega) (by simp only []; omega)).mono ?_
            rw [Int.toNat_natCast, show (64 : Int) = ((wdt o : Nat) : Int) by omega, obits_put _ o hox]
            rintro e w2 ⟨rfl, H2, S2⟩
            replace hw64 := Lib.hid hw64
            replace h64' := Lib.hid h64'
            go_wp2_with fail
            go_meet
            case rel => exact ⟨H2, S1.trans S2⟩
        case rest =>
          obtain ⟨H4, S4⟩ := hcut
          replace H4 := H4.pull2
          replace S4 := Sr.trans S4
          go_wp2_with fail
          go_loopw [11] (fun s11 wi => ∃ (j : Nat) (X : List Bool), j ≤ wdt o ∧ s11 = .int .i64 ((j : Int) - 1) ∧ X ++ bitsOf (numo o) j = obits o ∧
            Holds wi (wS (w.heap.size + 1 + 1) ⟨allBits (l.take k) ++ X, 0⟩ :: wS (w.heap.size + 1) ⟨allBits (l.take k) ++ obits o, 0⟩ :: wS w.heap.size ⟨allBits (l.take k) ++ obits o, 0⟩ :: F) ∧ Str w wi) (fun s11 _ => (intOf s11 + 1).toNat)
          case atStart => exact ⟨wdt o, [], Nat.le_refl _, rfl, rfl, by rw [List.append_nil]; exact H4, S4⟩
          case round =>
            obtain ⟨j, X, hj, rfl, hX, H5, S5⟩ := hrel
            replace hX := Lib.hid hX
            cases j with
            | zero =>
              have hX := hX.out
              rw [show bitsOf (numo o) 0 = [] from rfl, List.append_nil] at hX
              rw [hX] at H5
              replace hX := Lib.hid hX
              go_wp2_with fail
              go_roundw
              case rel =>
                have e := allBits_snoc l k hkn
                rw [← ho.out] at e
                refine ⟨k + 1, by omega, by omega, ?_, rfl, ?_, S5⟩
                · rw [e, List.length_append]
                  congr 1
                  have : (obits o).length = wdt o := by unfold obits; rw [length_bitsOf]
                  omega
                · rw [e]; exact H5
              case measure => simp [intOf]; omega
            | succ j =>
              have hXl : X.length ≤ 64 := by
                have := congrArg List.length hX.out
                unfold obits at this
                rw [List.length_append, length_bitsOf, length_bitsOf] at this
                omega
              go_wp2_with fail
              rw [cast_bit]
              refine (wBit_c _ _ _ _ _ H5 (by simp only [List.length_append]; omega)).mono ?_
              rintro e w5 ⟨rfl, H6, S6⟩
              go_wp2_with fail
              go_roundw
              case rel =>
                refine ⟨j, X ++ [(numo o).testBit j], by omega, by first | rfl | (congr 1; omega), ?_, ?_, S5.trans S6⟩
                · rw [List.append_assoc]; exact hX.out
                · rw [← List.append_assoc]; exact H6
              case measure => simp [intOf]
    · have hkk : l.take k = l.take 100 := by
        by_cases h : k < 100
        · rw [List.take_of_length_le (by omega), List.take_of_length_le (by omega)]
        · rw [show k = 100 by omega]
      have hLk : (allBits (l.take k)).length ≤ 64 * k := allBits_len l k
      obtain ⟨M, hM⟩ : ∃ M, M = allBits (l.take k) := ⟨_, rfl⟩
      have hM2 : M = allBits (l.take 100) := by rw [hM, hkk]
      rw [← hM] at Hr hLk ⊢
      replace hM2 := Lib.hid hM2
      clear hM hkk
      have hcase : k < l.length ∨ ¬ k < l.length := by omega
      have hMl : M.length ≤ 6400 := by omega
      have hpl : (pack M).length ≤ 801 := by rw [length_pack]; omega
      rcases hcase with hkl | hkl
      all_goals
        go_wp2_with fail
        refine (wDone_ok _ _ _ _ Hr.pull2 rfl (by simp only []; omega)).mono ?_
        rintro e w1 ⟨va, rfl, H1, S1⟩
        replace H1 := H1.pull3
        go_wp2_with fail
        refine (wDone_ok _ _ _ _ H1 rfl (by simp only []; omega)).mono ?_
        rintro e w2 ⟨vb, rfl, H2, S2⟩
        replace H2 := H2.pull4
        go_wp2_with fail
        refine (wDone_ok _ _ _ _ H2 rfl (by simp only []; omega)).mono ?_
        rintro e w3 ⟨vc, rfl, H3, S3⟩
        have k1 := conv_str (P := Try.prog) Try.underlying25 Try.underlying5 Try.underlying9 H3.own_is
        have k2 := conv_str (P := Try.prog) Try.underlying25 Try.underlying5 Try.underlying9 H3.pull2.own_is
        have k3 := conv_str (P := Try.prog) Try.underlying25 Try.underlying5 Try.underlying9 H3.pull4.own_is
        have kn := wLen_c _ _ w3 _ H3.tail.tail.tail.tail.tail
        simp only [] at k1 k2 k3 kn
        replace kn := Lib.hid kn
        have tb := H3.own_is
        go_wp2_with (first | (go_at_call 17; refine (num_c _ _).mono ?_; rintro e w' ⟨rfl, hw'⟩; obtain rfl := hw'.symm) | (go_at_call 11; refine kn.out.mono ?_; rintro e w' ⟨rfl, hw'⟩; obtain rfl := hw'.symm) | fail)
        refine (works_c w3 _ H3).mono ?_
        rintro e w4 ⟨rfl, H4, S4⟩
        clear k1 k2 k3 tb
        obtain ⟨sp, hsp⟩ : ∃ sp, sp = List.replicate ((8 - M.length % 8) % 8) false := ⟨_, rfl⟩
        have hup : unpack (pack M) = allBits (l.take 100) ++ sp := by rw [unpack_pack, hsp, ← hM2.out]
        replace hsp := Lib.hid hsp
        replace hup := Lib.hid hup
        go_wp2_with fail
        refine (From_c _ _ w4 _ H4 H4.pull4.own_is (pack_lt M) (by omega)).mono ?_
        rintro e w5 ⟨rb, rfl, H5, S5⟩
        go_wp2_with fail
        refine (From_c _ _ w5 _ H5 (Holds.pull4 H5.tail).own_is (pack_lt M) (by omega)).mono ?_
        rintro e w6 ⟨sb, rfl, H6, S6⟩
        go_wp2_with fail
        have H7 := H6.pull2.tail.pull2.tail.pull2.tail.pull2.tail.pull2.tail.pull2.tail
        have S7 := (((((Sr.trans S1).trans S2).trans S3).trans S4).trans S5).trans S6
        rw [hup.out] at H7
        clear H1 H2 H3 H4 H5 H6 S1 S2 S3 S4 S5 S6 Hr Sr HH kn
        go_loopw [20, 21, 22, 23, 24, 25] (fun s20 _ _ _ _ _ wl => ∃ (j : Nat), j ≤ 100 ∧ j ≤ l.length ∧ s20 = .int .i64 j ∧
          Holds wl (rS sb ⟨allBits ((l.take 100).drop j) ++ sp, 0⟩ :: rS rb ⟨allBits ((l.take 100).drop j) ++ sp, 0⟩ :: F) ∧ Str w wl) (fun s20 _ _ _ _ _ _ => (200 - intOf s20).toNat)
        case atStart => exact ⟨0, by omega, by omega, rfl, H7, S7⟩
        case round =>
          clear H7 S7
          obtain ⟨j, hj1, hj2, rfl, Hr, Sr⟩ := hrel
          by_cases hjn : j < l.length ∧ j < 100
          · obtain ⟨hjn, hj100⟩ := hjn
            obtain ⟨g, off, cap, hv, hcap, hcm, c0, c1, c2, c3⟩ := ops_cells (hs _ Hr.tail.tail) hjn
            obtain ⟨⟨_, _⟩, ⟨ho1, ho2⟩, hox, ⟨hn1, hn2⟩⟩ := hl _ (List.getElem_mem hjn)
            have hcap' := hcm
            unfold maxLen at hcap'
            simp only [Value.slice.injEq] at hv
            obtain ⟨rfl, _, rfl⟩ := hv
            have hAB := allBits_drop l j hjn hj100
            obtain ⟨o, ho⟩ : ∃ o, o = l[j] := ⟨_, rfl⟩
            rw [← ho] at c0 c1 c2 c3 ho1 ho2 hox hn1 hn2 hAB
            rw [hAB, List.append_assoc] at Hr
            clear hAB
            obtain ⟨R, hR⟩ : ∃ R, R = allBits ((l.take 100).drop (j + 1)) ++ sp := ⟨_, rfl⟩
            rw [← hR] at Hr
            replace hR := Lib.hid hR
            replace ho := Lib.hid ho
            go_wp2_with fail
            refine (Within_c o.n 65 ⟨hn1, hn2⟩ (by omega) (by omega) _).mono ?_
            rw [wdt_eq]
            rintro e w' ⟨rfl, hw'⟩
            obtain rfl := hw'.symm
            have hwd := wdt_le o
            go_wp2_with fail
            refine (Within_c o.on _ ⟨ho1, ho2⟩ (by omega) (by omega) _).mono ?_
            rw [loww_eq]
            rintro e w' ⟨rfl, hw'⟩
            obtain rfl := hw'.symm
            have hlw := loww_le o
            go_wp2_with fail
            refine (rBits_c rb _ _ _ _ Hr.swap).mono ?_
            rw [take_front o R hox]
            rintro e w7 ⟨rfl, H7, S7⟩
            go_wp2_with fail
            refine (rBits_c sb _ _ _ _ H7.swap).mono ?_
            rw [take_high o R hox]
            rintro e w8 ⟨rfl, H8, S8⟩
            go_wp2_with fail
            refine (rBits_c sb _ _ _ _ H8).mono ?_
            rw [take_low o R]
            rintro e w9 ⟨rfl, H9, S9⟩
            have kL1 := rLeft_c rb _ w9 _ H9.swap
            have kL2 := fun n => rLeft_c sb _ (w9.drewN n) _ (H9.drewN n)
            simp only [] at kL1 kL2
            replace kL1 := Lib.hid kL1
            replace kL2 := Lib.hid kL2
            by_cases h64 : loww o < 64
            · have hsum := split_sum o hox
              go_wp2_with (first | (go_at_call 20; (with_reducible refine kL1.out.mono ?_); rintro e w' ⟨rfl, m, rfl⟩) | (go_at_call 20; (with_reducible refine (kL2.out _).mono ?_); rintro e w' ⟨rfl, m2, rfl⟩) | fail)
              go_roundw
              case rel => exact ⟨j + 1, by omega, by omega, by congr 1, by rw [← hR.out]; exact H9.drewN _, (((Sr.trans S7).trans S8).trans S9).drewN _⟩
              case measure => simp [intOf]; omega
            · have h64' : loww o = 64 := by omega
              have hm : ((numo o : Nat) : Int) % 18446744073709551616 = (numo o : Nat) := by
                have := Nat.lt_of_lt_of_le (numo_lt o hox).1 (numo_lt o hox).2
                omega
              go_wp2_with (first | (go_at_call 20; (with_reducible refine kL1.out.mono ?_); rintro e w' ⟨rfl, m, rfl⟩) | (go_at_call 20; (with_reducible refine (kL2.out _).mono ?_); rintro e w' ⟨rfl, m2, rfl⟩) | fail)
              go_roundw
              case rel => exact ⟨j + 1, by omega, by omega, by congr 1, by rw [← hR.out]; exact H9.drewN _, (((Sr.trans S7).trans S8).trans S9).drewN _⟩
              case measure => simp [intOf]; omega
          · have hdr : allBits ((l.take 100).drop j) = [] := by
              rw [List.drop_eq_nil_of_le (by simp; omega)]
              rfl
            rw [hdr, List.nil_append] at Hr
            have hE0 : (⟨sp, 0⟩ : Rs).end_ = 0 := by rw [hsp.out]; exact end_spare _ (by omega)
            have kE1 := rEnd_c rb _ _ _ Hr.swap
            have kE2 := fun n => rEnd_c sb _ _ _ (Hr.drewN n)
            rw [hE0] at kE1
            simp only [hE0] at kE2
            replace kE1 := Lib.hid kE1
            replace kE2 := Lib.hid kE2
            clear hE0 hdr
            have hcase2 : j < l.length ∨ ¬ j < l.length := by omega
            rcases hcase2 with hj3 | hj3
            all_goals
              go_wp2_with (first | (go_at_call 17; refine (num_c _ _).mono ?_; rintro e w' ⟨rfl, hw'⟩; obtain rfl := hw'.symm) | (go_at_call 21; (with_reducible refine kE1.out.mono ?_); rintro e w' ⟨rfl, m, rfl⟩) | (go_at_call 21; (with_reducible refine (kE2.out _).mono ?_); rintro e w' ⟨rfl, m2, rfl⟩) | fail)
              all_goals (refine bodyPost_ret (results_tmp rfl _ _ _) rfl ⟨rfl, Hr.tail.tail.drewN _, Sr.drewN _⟩)
end Go.Proofs.Ytngnfdlkkedaaaa
