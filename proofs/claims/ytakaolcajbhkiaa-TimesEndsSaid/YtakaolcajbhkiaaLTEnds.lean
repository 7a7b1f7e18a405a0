/- The law TimesEnds, walked. -/
import Derived.Test.YtakaolcajbhkiaaLTMoved
namespace Go.Proofs.Ytakaolcajbhkiaa
open Go.RowKit Go.SL Go.Fm
set_option linter.unusedVariables false
set_option linter.unusedSimpArgs false

/-- The rows of the first part. -/
def endRows : List (List Int) := [[], [0], [-9223372036854775808], [9223372036854775807], [-9223372036854775808, 9223372036854775807], [-9223372036854775808, 0, 9223372036854775807], [-9223372036854775808, -9223372036854775807, 9223372036854775806, 9223372036854775807], [-1, 0, 1]]
theorem endRows_ok : ∀ l ∈ endRows, I64 l ∧ Rising l ∧ l.length ≤ 4 := by
  intro l hl
  have h : l = [] ∨ l = [0] ∨ l = [-9223372036854775808] ∨ l = [9223372036854775807] ∨ l = [-9223372036854775808, 9223372036854775807] ∨ l = [-9223372036854775808, 0, 9223372036854775807] ∨ l = [-9223372036854775808, -9223372036854775807, 9223372036854775806, 9223372036854775807] ∨ l = [-1, 0, 1] := by simpa [endRows] using hl
  rcases h with rfl | rfl | rfl | rfl | rfl | rfl | rfl | rfl
  all_goals
    refine ⟨fun t ht => ?_, fun i hi => ?_, by simp⟩
    · first | (simp at ht; done) | (simp at ht; omega)
    · have h3 : i = 0 ∨ i = 1 ∨ i = 2 := by first | (simp at hi; done) | (simp at hi; omega)
      rcases h3 with rfl | rfl | rfl <;> first | (simp at hi; done) | (simp [List.getD]; done) | (exfalso; simp at hi)
/-- Where they lie. -/
def endCells (h : Nat) : List Value := [.slice none 0 0, .slice (some ⟨h, 0, none⟩) 1 1, .slice (some ⟨h + 1, 0, none⟩) 1 1, .slice (some ⟨h + 1 + 1, 0, none⟩) 1 1, .slice (some ⟨h + 1 + 1 + 1, 0, none⟩) 2 2,
  .slice (some ⟨h + 1 + 1 + 1 + 1, 0, none⟩) 3 3, .slice (some ⟨h + 1 + 1 + 1 + 1 + 1, 0, none⟩) 4 4, .slice (some ⟨h + 1 + 1 + 1 + 1 + 1 + 1, 0, none⟩) 3 3]
def endMem (h : Nat) (F : List HProp) : List HProp :=
  pts (h + 1 + 1 + 1 + 1 + 1 + 1 + 1) (.cells (endCells h).toArray 27 (0, 0)) ::
  pts (h + 1 + 1 + 1 + 1 + 1 + 1) (.cells (iv [-1, 0, 1]).toArray 2 (0, 0)) ::
  pts (h + 1 + 1 + 1 + 1 + 1) (.cells (iv [-9223372036854775808, -9223372036854775807, 9223372036854775806, 9223372036854775807]).toArray 2 (0, 0)) ::
  pts (h + 1 + 1 + 1 + 1) (.cells (iv [-9223372036854775808, 0, 9223372036854775807]).toArray 2 (0, 0)) ::
  pts (h + 1 + 1 + 1) (.cells (iv [-9223372036854775808, 9223372036854775807]).toArray 2 (0, 0)) ::
  pts (h + 1 + 1) (.cells (iv [9223372036854775807]).toArray 2 (0, 0)) ::
  pts (h + 1) (.cells (iv [-9223372036854775808]).toArray 2 (0, 0)) ::
  pts h (.cells (iv [0]).toArray 2 (0, 0)) :: F
theorem sees_nil {F : List HProp} : Sees F 1 (.slice none 0 0) 0 [] := fun _ _ => ⟨rfl, .inl ⟨rfl, rfl⟩⟩
theorem sees_row {g n : Nat} {l : List Int} {E : TypeId} {fz : Nat × Nat} {F : List HProp} (hl : l.length = n) (hm : n ≤ maxLen) : Sees (pts g (.cells (iv l).toArray E fz) :: F) 1 (.slice (some ⟨g, 0, none⟩) n n) n (iv l) := by
  have := sees_lit (g := g) (s := 1) (n := n) (cs := (iv l).toArray) (E := E) (fz := fz) (F := F) (by simp [hl]) hm
  simpa using this
theorem endRows_seen (h : Nat) (F : List HProp) : RowsSeen (endMem h F) iv (.slice (some ⟨h + 1 + 1 + 1 + 1 + 1 + 1 + 1, 0, none⟩) 8 8) endRows := by
  refine ⟨endCells h, rfl, ?_, ?_⟩
  · have := sees_lit (g := h + 1 + 1 + 1 + 1 + 1 + 1 + 1) (s := 1) (n := 8) (cs := (endCells h).toArray) (E := 27) (fz := (0, 0)) (F := (endMem h F).tail) rfl (by decide)
    exact this
  · intro i u l hu hl
    have hi : i < 8 := (List.getElem?_eq_some_iff.1 hu).1
    match i, hi with
    | 0, _ => cases hu; cases hl; exact sees_nil
    | 1, _ => cases hu; cases hl; exact ((((((sees_row rfl (by decide)).cons).cons).cons).cons).cons).cons.cons
    | 2, _ => cases hu; cases hl; exact ((((((sees_row rfl (by decide)).cons).cons).cons).cons).cons).cons
    | 3, _ => cases hu; cases hl; exact (((((sees_row rfl (by decide)).cons).cons).cons).cons).cons
    | 4, _ => cases hu; cases hl; exact ((((sees_row rfl (by decide)).cons).cons).cons).cons
    | 5, _ => cases hu; cases hl; exact (((sees_row rfl (by decide)).cons).cons).cons
    | 6, _ => cases hu; cases hl; exact ((sees_row rfl (by decide)).cons).cons
    | 7, _ => cases hu; cases hl; exact (sees_row rfl (by decide)).cons

set_option maxRecDepth 100000 in
set_option maxHeartbeats 8000000 in
theorem TimesEnds_c (w : World) (F : List HProp) (H : Holds w F) : Calls Try.prog 6 #[] w (Ret w (.bool true) F) := by
  obtain ⟨i1, hj, hy0, hy1', hy2'⟩ := info_parts info_i64
  have HB := (((((((H.alloc (.cells #[.int .i64 0] 2)).alloc (.cells #[.int .i64 (-9223372036854775808)] 2)).alloc (.cells #[.int .i64 9223372036854775807] 2)).alloc (.cells #[.int .i64 (-9223372036854775808), .int .i64 9223372036854775807] 2)).alloc (.cells #[.int .i64 (-9223372036854775808), .int .i64 0, .int .i64 9223372036854775807] 2)).alloc
    (.cells #[.int .i64 (-9223372036854775808), .int .i64 (-9223372036854775807), .int .i64 9223372036854775806, .int .i64 9223372036854775807] 2)).alloc (.cells #[.int .i64 (-1), .int .i64 0, .int .i64 1] 2)).alloc (.cells (endCells w.heap.size).toArray 27)
  have hS := (((((((((Str.refl w).alloc (.cells #[.int .i64 0] 2)).alloc (.cells #[.int .i64 (-9223372036854775808)] 2)).alloc (.cells #[.int .i64 9223372036854775807] 2)).alloc (.cells #[.int .i64 (-9223372036854775808), .int .i64 9223372036854775807] 2)).alloc (.cells #[.int .i64 (-9223372036854775808), .int .i64 0, .int .i64 9223372036854775807] 2)).alloc
    (.cells #[.int .i64 (-9223372036854775808), .int .i64 (-9223372036854775807), .int .i64 9223372036854775806, .int .i64 9223372036854775807] 2)).alloc (.cells #[.int .i64 (-1), .int .i64 0, .int .i64 1] 2)).alloc (.cells (endCells w.heap.size).toArray 27))
  go_enter Try.func6, Try.ntmps6
  go_wp2
  have hseen := endRows_seen w.heap.size F
  go_loopw [4] (fun s4 wl => ∃ (i : Nat), i ≤ 8 ∧ s4 = .int .i64 i ∧ Holds wl (endMem w.heap.size F) ∧ Str w wl) (fun s4 _ => (200 - intOf s4).toNat)
  case atStart => exact ⟨0, by omega, rfl, by have h := HB; simp only [World.size_alloc] at h; exact h, hS⟩
  case round =>
    clear HB hS
    obtain ⟨i, hi, rfl, Hr, Sr⟩ := hrel
    by_cases hi8 : i < 8
    · obtain ⟨g, off, cap, u, hv, hcap, hcm, hcuw, hsu⟩ := hseen.place Hr (i := i) hi8
      have hv2 := hv
      rw [show endRows.length = 8 from rfl] at hv2
      simp only [Value.slice.injEq, Option.some.injEq, Addr.mk.injEq, true_and, and_true] at hv2
      obtain ⟨⟨rfl, rfl⟩, rfl⟩ := hv2
      rw [Nat.zero_add] at hcuw
      obtain ⟨l, hl⟩ : ∃ l, l = endRows[i]'hi8 := ⟨_, rfl⟩
      obtain ⟨hil, hr, hlm⟩ := endRows_ok _ (List.getElem_mem hi8)
      rw [← hl] at hsu hil hlm hr
      rw [length_iv] at hsu
      replace hl := Lib.hid hl
      obtain ⟨au, cu, rfl⟩ := slice_shape' (hsu _ Hr)
      have hcu := hcuw _ Hr
      have hP := tPack_ok _ l wr _ Hr hsu (by omega) hil hr
      obtain ⟨Bs, hBs⟩ : ∃ Bs, Bs = pack (tTo l l.length) := ⟨_, rfl⟩
      have hG := tGet_back l hil hr
      have hBl := times_len l l.length
      have hB256 := pack_lt (tTo l l.length)
      rw [← hBs] at hP hG hBl hB256
      replace hBs := Lib.hid hBs
      replace hG := Lib.hid hG
      replace hr := Lib.hid hr
      replace hil := Lib.hid hil
      replace hB256 := Lib.hid hB256
      clear hv hseen
      replace hcuw := Lib.hid hcuw
      go_wp2_with fail
      refine hP.mono ?_
      rintro e w1 ⟨v1, rfl, H1, S1⟩
      obtain ⟨a3, c3, rfl⟩ := own_shape H1
      have hU := tUnpack_c (.slice a3 Bs.length c3) Bs l.length w1 _ H1 H1.own_is hB256.out (by omega) (by omega)
      rw [hG.out] at hU
      have hcu1 := hcuw.out _ H1.tail
      go_wp2_with fail
      refine hU.mono ?_
      rintro e w2 ⟨v2, rfl, H2, S2⟩
      obtain ⟨a4, c4, rfl⟩ := own_shape H2
      have hcu2 := hcuw.out _ H2.tail.tail
      have hsame := same6_c _ _ l l w2 H2.own_is (hsu _ H2.tail.tail) (by omega)
      rw [decide_eq_true (rfl : l = l)] at hsame
      go_wp2_with (first | (go_at_call 10; refine (num6_c _ _).mono ?_; rintro e w5 ⟨rfl, hw5⟩; obtain rfl := hw5.symm) | (go_at_call 12; refine hsame.mono ?_; rintro e w4 ⟨rfl, n4, rfl⟩) | fail)
      go_roundw
      case rel => exact ⟨i + 1, by omega, by congr 1, H2.tail.tail.drewN _, ((Sr.trans S1).trans S2).drewN _⟩
      case measure => (simp [intOf] <;> omega)
    · obtain rfl : i = 8 := by omega
      clear hseen
      rw [show ((8 : Nat) : Int) = 8 from rfl]
      go_wp2_with fail
      go_loopw [9, 10] (fun s9 s10 wl => ∃ (j : Nat) (l : List Int) (a : Option Addr) (cap : Nat), j ≤ 4097 ∧ l.length = j ∧ s9 = .slice a j cap ∧ s10 = .int .i64 j ∧ (∀ i, i < j → l.getD i 0 = ((i * i : Nat) : Int)) ∧
        Holds wl (own 2 1 (.slice a j cap) j (iv l) :: endMem w.heap.size F) ∧ Str w wl) (fun _ s10 _ => (5000 - intOf s10).toNat)
      case atStart => exact ⟨0, [], none, 0, by omega, rfl, rfl, rfl, fun i hi => (by omega), Holds.own_nil Hr, Sr⟩
      case round =>
        clear Hr Sr
        obtain ⟨j, l, a, cap, hj97, hlen, rfl, rfl, hsq, Hq, Sq⟩ := hrel
        replace hlen := Lib.hid hlen
        replace hsq := Lib.hid hsq
        by_cases hj' : j < 4097
        · have hjj : j * j ≤ 4096 * 4096 := Nat.mul_le_mul (by omega) (by omega)
          have hcast : ((j * j : Nat) : Int) = (j : Int) * (j : Int) := by simp
          have hb0 : (0 : Int) ≤ (j : Int) * (j : Int) := by rw [← hcast]; omega
          have hb1 : (j : Int) * (j : Int) ≤ 16777216 := by rw [← hcast]; omega
          have hsq' : ∀ i, i < j + 1 → (l ++ [(j : Int) * (j : Int)]).getD i 0 = ((i * i : Nat) : Int) := by
            intro i hi
            have h1 := hlen.out
            by_cases hij : i = j
            · rw [hij, ← h1, getD_app_eq, h1, hcast]
            · rw [getD_app_lt (by omega)]; exact hsq.out i (by omega)
          replace hsq' := Lib.hid hsq'
          replace hcast := Lib.hid hcast
          clear hjj
          go_wp2_with (at_builtin; refine wpList_append_sl rfl _ _ _ rfl i1 (.int .i64 0) Try.underlying27 hj hy0 hy1' hy2' rfl (by decide) rfl (x := .slice (some ⟨wr.heap.size, 0, none⟩) 1 1) rfl (Hq.alloc' _) (m := 1) (news := [.int .i64 ((j : Int) * (j : Int))]) (slice_new wr _ _ _ 1 1 rfl (by decide)) (by simp [Value.oneCell']) (by omega) (by unfold maxLen; omega) ?_; intro v8 w8 H8 S8; obtain ⟨a8, k8, rfl⟩ := own_shape H8)
          go_roundw
          case rel => exact ⟨j + 1, l ++ [(j : Int) * (j : Int)], a8, k8, by omega, by rw [List.length_append, List.length_singleton, hlen.out], rfl, by congr 1, hsq'.out, by rw [iv_append]; exact H8, (Sq.alloc _).trans S8⟩
          case measure => (simp [intOf] <;> omega)
        · obtain rfl : j = 4097 := by omega
          obtain ⟨g, cap9, rest9, hv9, hcap9, hcm9, hl9, _, H9⟩ := Hq.own_block (by omega)
          simp only [Value.slice.injEq] at hv9
          obtain ⟨rfl, _, rfl⟩ := hv9
          have hlt : (l.take 4096).length = 4096 := by have := hlen.out; rw [List.length_take]; omega
          have hI : I64 (l.take 4096) := by
            intro t ht
            obtain ⟨i, hi, rfl⟩ := List.mem_iff_getElem.1 ht
            rw [hlt] at hi
            have h1 := hsq.out i (by omega)
            have h2 : (l.take 4096)[i]'(by rw [hlt]; exact hi) = l.getD i 0 := by
              have h3 := hlen.out
              rw [List.getElem_take]
              simp [List.getD, List.getElem?_eq_getElem (show i < l.length by omega)]
            have h4 : i * i ≤ 4096 * 4096 := Nat.mul_le_mul (by omega) (by omega)
            rw [h2, h1]
            omega
          have hr : Rising (l.take 4096) := by
            intro i hi
            rw [hlt] at hi
            rw [getD_take (by omega), getD_take (by omega), hsq.out i (by omega), hsq.out (i + 1) (by omega)]
            have : i * i < (i + 1) * (i + 1) := Nat.mul_lt_mul'' (by omega) (by omega)
            omega
          have hown : ∀ (G : List HProp), Sees (own 2 1 (.slice (some ⟨g, 0, none⟩) 4097 cap) 4097 (iv l) :: G) 1 (.slice (some ⟨g, 0, none⟩) 4096 cap) 4096 (iv (l.take 4096)) := fun G => by
            have h := sees_take (sees_own (E := 2) (s := 1) (n := 4097) (v := .slice (some ⟨g, 0, none⟩) 4097 cap) (xs := iv l) (F := G)) (m := 4096) (by omega)
            rwa [← iv_take] at h
          have hP := tPack_ok (.slice (some ⟨g, 0, none⟩) 4096 cap) (l.take 4096) wr _ Hq (by rw [hlt]; exact hown _) (by omega) hI hr
          have hG := tGet_back (l.take 4096) hI hr
          have hB256 := pack_lt (tTo (l.take 4096) (l.take 4096).length)
          have hBl := times_len (l.take 4096) (l.take 4096).length
          rw [hlt] at hP hG hB256 hBl
          obtain ⟨Bs, hBs⟩ : ∃ Bs, Bs = pack (tTo (l.take 4096) 4096) := ⟨_, rfl⟩
          rw [← hBs] at hP hG hB256 hBl
          replace hBs := Lib.hid hBs
          replace hr := Lib.hid hr
          replace hI := Lib.hid hI
          replace hlt := Lib.hid hlt
          replace hB256 := Lib.hid hB256
          replace hG := Lib.hid hG
          replace hown := Lib.hid hown
          unfold maxLen at hcm9
          have hc96 : (4096 : Int) ≤ (cap : Int) := by omega
          rw [show ((4097 : Nat) : Int) = 4097 from rfl]
          go_wp2_with fail
          refine hP.mono ?_
          rintro e w1 ⟨v1, rfl, H1, S1⟩
          obtain ⟨a3, c3, rfl⟩ := own_shape H1
          have hP2 := tPack_many (.slice (some ⟨g, 0, none⟩) 4097 cap) l w1 _ H1 (by rw [hlen.out]; exact sees_own.cons) (by rw [hlen.out]; decide)
          go_wp2_with fail
          refine hP2.mono ?_
          rintro e w2 ⟨rfl, H2, S2⟩
          have hU1 := tUnpack_many (.slice a3 Bs.length c3) 4097 w2 _ H2 (by omega)
          go_wp2_with fail
          refine hU1.mono ?_
          rintro e w3 ⟨rfl, H3, S3⟩
          have hU2 : Calls Try.prog 11 #[.slice a3 Bs.length c3, .int .i64 4096] w3 _ := tUnpack_c (.slice a3 Bs.length c3) Bs 4096 w3 _ H3 H3.own_is hB256.out (by omega) (by omega)
          rw [hG.out] at hU2
          go_wp2_with fail
          refine hU2.mono ?_
          rintro e w4 ⟨v4, rfl, H4, S4⟩
          rw [hlt.out] at H4
          obtain ⟨a4, c4, rfl⟩ := own_shape H4
          have hsame := same6_c (.slice a4 4096 c4) (.slice (some ⟨g, 0, none⟩) 4096 cap) (l.take 4096) (l.take 4096) w4 (by rw [hlt.out]; exact H4.own_is) (by rw [hlt.out]; exact hown.out _ _ H4.tail.tail) (by rw [hlt.out]; decide)
          rw [decide_eq_true (rfl : l.take 4096 = l.take 4096)] at hsame
          go_wp2_with (first | (go_at_call 10; refine (num6_c _ _).mono ?_; rintro e w5 ⟨rfl, hw5⟩; obtain rfl := hw5.symm) | (go_at_call 12; refine hsame.mono ?_; rintro e w6 ⟨rfl, n6, rfl⟩) | (go_at_call 13; refine (works6_c _ _ (H4.drewN n6)).mono ?_; rintro e w7 ⟨rfl, H7, S7⟩) | fail)
          go_ret
          exact ⟨rfl, (H7.tail.tail.tail).tail.tail.tail.tail.tail.tail.tail.tail, ((((Sq.trans S1).trans S2).trans S3).trans S4 |>.drewN n6).trans S7⟩
end Go.Proofs.Ytakaolcajbhkiaa
