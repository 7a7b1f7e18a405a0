/- The document's reader of bits: its assertion, refuse, number, Left, End. The document's reader of bits: number, Left, End, Bits. The document's reader of bits: Bit, Back. The document's reader of bits: Unary. -/
import Derived.Test.YtakaolcajbhkiaaGreatR1
import Derived.Test.YtakaolcajbhkiaaGreatBR
import Derived.ScopeJumps
import Derived.Test.YtakaolcajbhkiaaGreatCodes
namespace Go.Proofs.YtakaolcajbhkiaaGreat
set_option linter.unusedVariables false
set_option linter.unusedSimpArgs false
open Go.RowKit Go.SL Go.Fm

/-- A slice INTO a block of its own. -/
def part (E : TypeId) (v : Value) (n : Nat) (xs : List Value) : HProp := fun h =>
  xs.length = n ∧ ((v = .slice none 0 0 ∧ n = 0 ∧ h = hemp) ∨
    ∃ g off cap cs, v = .slice (some ⟨g, off, none⟩) n cap ∧ n ≤ cap ∧ cap ≤ maxLen ∧ h = hone g (.cells cs E (0, 0)) ∧ ∀ j x, xs[j]? = some x → cs[off + j]? = some x)
theorem part_is {E : TypeId} {v : Value} {n : Nat} {xs : List Value} {w : World} {F : List HProp} (H : Holds w (part E v n xs :: F)) : SliceIs w 1 v n xs := by
  obtain ⟨x, ⟨a, b, hab, rfl, ⟨hl, ha⟩, hb⟩, hw⟩ := H
  refine ⟨by omega, ?_⟩
  rcases ha with ⟨h1, h2, _⟩ | ⟨g, off, cap, cs, rfl, h1, h2, rfl, h3⟩
  · exact .inl ⟨h1, h2⟩
  · refine .inr ⟨⟨g, off, none⟩, cap, rfl, h1, h2, ?_⟩
    have hg : Holds w (pts g (.cells cs E (0, 0)) :: F) := ⟨_, ⟨_, b, hab, rfl, rfl, hb⟩, hw⟩
    intro j u hu
    rw [add_plain', hg.cell]
    exact h3 j u hu
theorem part_of_own {E : TypeId} {v : Value} {n : Nat} {xs : List Value} {w : World} {F : List HProp} (H : Holds w (own E 1 v n xs :: F)) : Holds w (part E v n xs :: F) := by
  refine H.mono ?_
  rintro h ⟨rest, hl, hh⟩
  refine ⟨by omega, ?_⟩
  rcases hh with ⟨h1, h2, _, h3⟩ | ⟨g, cap, h1, h2, h3, _, h4⟩
  · exact .inl ⟨h1, h2, h3⟩
  · refine .inr ⟨g, 0, cap, _, h1, h2, h3, h4, fun j x hj => ?_⟩
    rw [Nat.zero_add, List.getElem?_toArray, List.getElem?_append_left (List.getElem?_eq_some_iff.1 hj).1]
    exact hj
/-- Its end, from the m-th on. -/
theorem part_drop {E : TypeId} {a : Option Addr} {n c m : Nat} {xs : List Value} {w : World} {F : List HProp} (H : Holds w (part E (.slice a n c) n xs :: F)) (hm : m ≤ n) :
    (a = none → m = 0 → Holds w (part E (.slice none 0 0) 0 (xs.drop m) :: F)) ∧ (∀ g off c', a = some ⟨g, off, none⟩ → n - m ≤ c' → c' ≤ maxLen → ∀ off', (off' = off + m ∨ n - m = 0) → Holds w (part E (.slice (some ⟨g, off', none⟩) (n - m) c') (n - m) (xs.drop m) :: F)) := by
  constructor
  · rintro rfl rfl
    refine H.mono ?_
    rintro h ⟨hl, hh⟩
    rcases hh with ⟨h1, h2, h3⟩ | ⟨g, off, cap, cs, h1, _⟩
    · exact ⟨by rw [List.length_drop]; omega, .inl ⟨rfl, rfl, h3⟩⟩
    · simp at h1
  · rintro g off c' rfl hc hc' off' ho
    refine H.mono ?_
    rintro h ⟨hl, hh⟩
    rcases hh with ⟨h1, h2, h3⟩ | ⟨g', off2, cap, cs, h1, h2, h3, h4, h5⟩
    · simp at h1
    · simp only [Value.slice.injEq, Option.some.injEq, Addr.mk.injEq] at h1
      obtain ⟨⟨rfl, rfl, _⟩, _, rfl⟩ := h1
      refine ⟨by rw [List.length_drop]; omega, .inr ⟨g, off', c', cs, rfl, hc, hc', h4, fun j x hj => ?_⟩⟩
      rcases ho with rfl | h0
      · rw [List.getElem?_drop] at hj
        rw [Nat.add_assoc]
        exact h5 _ _ hj
      · have := (List.getElem?_eq_some_iff.1 hj).1
        rw [List.length_drop] at this
        omega

/-- The document's reader, by its state. -/
def qS (b : Nat) (s : Rs) : HProp := fun h => ∃ v, sep (pts b (.cells #[v, .int .i64 (s.bad : Nat)] 114 (0, 0))) (part 5 v s.L.length (bv (nums s.L))) h
theorem qS_open {b : Nat} {s : Rs} {w : World} {F : List HProp} (h : Holds w (qS b s :: F)) :
    ∃ v, Holds w (pts b (.cells #[v, .int .i64 (s.bad : Nat)] 114 (0, 0)) :: part 5 v s.L.length (bv (nums s.L)) :: F) := by
  obtain ⟨v, h⟩ := Holds.elim h
  exact ⟨v, h.split⟩
theorem qS_shut {b : Nat} {s : Rs} {w : World} {F : List HProp} {v : Value} {L : List Bool} {bad : Nat} (hL : s.L = L) (hb : s.bad = bad)
    (h : Holds w (pts b (.cells #[v, .int .i64 (bad : Nat)] 114 (0, 0)) :: part 5 v L.length (bv (nums L)) :: F)) : Holds w (qS b s :: F) := by
  subst hL hb
  exact h.unsplit.mono fun _ hx => ⟨v, hx⟩

set_option maxRecDepth 100000 in
theorem rrRefuse_c (b : Nat) (e : Nat) (s : Rs) (w : World) (F : List HProp) (H : Holds w (qS b s :: F)) :
    Calls Tryz.prog 90 #[.pointer (some ⟨b, 0, none⟩), .int .i64 e] w (Ret w (.tuple #[]) (qS b (s.refuse e) :: F)) := by
  obtain ⟨v, H1⟩ := qS_open H
  have c1 := H1.cell 1
  have z1 := H1.free 1
  simp at c1
  unfold Rs.refuse
  by_cases hb : s.bad = 0
  · rw [if_pos hb]
    rw [hb] at c1
    go_enter Tryz.func90, Tryz.ntmps90
    go_wp2
    go_end0
    exact ⟨rfl, qS_shut rfl rfl (H1.store 1 _), (Str.refl w).setCell _ _⟩
  · rw [if_neg hb]
    have hb' : ((s.bad : Int) == 0) = false := by simp; omega
    go_enter Tryz.func90, Tryz.ntmps90
    go_wp2
    go_end0
    exact ⟨rfl, H, Str.refl w⟩
end Go.Proofs.YtakaolcajbhkiaaGreat

namespace Go.Proofs.YtakaolcajbhkiaaGreat
set_option linter.unusedVariables false
set_option linter.unusedSimpArgs false
open Go.RowKit Go.SL Go.Fm

theorem bval_snoc (l : List Bool) (b : Bool) : bval (l ++ [b]) = bval l * 2 + b.toNat := by
  rw [bval_append]
  cases b <;> simp [bval]
theorem nums_at {L : List Bool} {j : Nat} (h : j < L.length) : (bv (nums L))[j]? = some (.int .u8 ((L[j].toNat : Nat) : Int)) := by simp [bv, nums, h]

set_option maxRecDepth 100000 in
theorem number_c (v : Value) (L : List Bool) (w : World) (hv : SliceIs w 1 v L.length (bv (nums L))) (hL : L.length ≤ 64) :
    Calls Tryz.prog 91 #[v] w (fun e w' => e = .returned (.int .u64 (bval L : Nat)) ∧ w' = w) := by
  obtain ⟨a0, c0, rfl⟩ : ∃ a c, v = .slice a L.length c := by
    rcases hv.2 with ⟨h, h'⟩ | ⟨a, c, h, _⟩
    · rw [h, h']; exact ⟨_, _, rfl⟩
    · exact ⟨_, _, h⟩
  go_enter Tryz.func91, Tryz.ntmps91
  go_wp2
  go_loopw [3, 4] (fun s3 s4 wl => ∃ (j : Nat), j ≤ L.length ∧ s3 = .int .u64 (bval (L.take j) : Nat) ∧ s4 = .int .i64 j ∧ wl = w) (fun _ s4 _ => (L.length - intOf s4).toNat)
  case atStart => exact ⟨0, by omega, rfl, rfl, rfl⟩
  case round =>
    obtain ⟨j, hj, rfl, rfl, hw⟩ := hrel
    obtain rfl := hw.symm
    by_cases hjn : j < L.length
    · obtain ⟨g, off, cap, hv1, hcap, hcm, hc⟩ := hv.at (by omega)
      simp only [Value.slice.injEq] at hv1
      obtain ⟨rfl, _, rfl⟩ := hv1
      have c1 := hc j _ (nums_at hjn)
      have hsn : bval (L.take (j + 1)) = bval (L.take j) * 2 + L[j].toNat := by rw [List.take_succ_eq_append_getElem hjn, bval_snoc]
      have hlt : bval (L.take (j + 1)) < 18446744073709551616 := by
        have h1 := bval_take_lt L (j + 1)
        have h2 : 2 ^ (j + 1) ≤ 2 ^ 64 := Nat.pow_le_pow_right (by decide) (by omega)
        have h3 : (2 : Nat) ^ 64 = 18446744073709551616 := by decide
        omega
      have hb := Bool.toNat_lt L[j]
      unfold maxLen at hcm
      go_wp2_with fail
      go_roundw
      case rel => exact ⟨j + 1, by omega, by rw [hsn]; first | rfl | (congr 1; omega), by congr 1, by trivial⟩
      case measure => (simp [intOf] <;> omega)
    · rw [List.take_of_length_le (show L.length ≤ j by omega)]
      go_wp2_with fail
      go_ret
      exact ⟨rfl, rfl⟩

set_option maxRecDepth 100000 in
theorem rrEnd_c (b : Nat) (s : Rs) (w : World) (F : List HProp) (H : Holds w (qS b s :: F)) :
    Calls Tryz.prog 47 #[.pointer (some ⟨b, 0, none⟩)] w (fun e w' => e = .returned (.int .i64 (s.end_ : Nat)) ∧ w' = w) := by
  obtain ⟨v, H1⟩ := qS_open H
  have hv := part_is H1.swap
  obtain ⟨a0, c0, rfl⟩ : ∃ a c, v = .slice a s.L.length c := by
    rcases hv.2 with ⟨h, h'⟩ | ⟨a, c, h, _⟩
    · rw [h, h']; exact ⟨_, _, rfl⟩
    · exact ⟨_, _, h⟩
  have c0 := H1.cell 0
  have c1 := H1.cell 1
  simp at c0 c1
  unfold Rs.end_
  by_cases hb : s.bad = 0
  · rw [if_neg (by omega)]
    rw [hb] at c1
    by_cases h8 : 8 ≤ s.L.length
    · rw [if_pos h8]
      go_enter Tryz.func47, Tryz.ntmps47
      go_wp2
      refine bodyPost_ret (results_tmp rfl _ _ _) rfl ⟨rfl, rfl⟩
    · rw [if_neg h8]
      have hn := number_c _ s.L w hv (by omega)
      by_cases hz : bval s.L = 0
      · rw [if_neg (by omega)]
        rw [hz] at hn
        go_enter Tryz.func47, Tryz.ntmps47
        go_wp2_with (go_at_call 91; refine hn.mono ?_; rintro e w' ⟨rfl, hw'⟩; obtain rfl := hw'.symm)
        refine bodyPost_ret (results_tmp rfl _ _ _) rfl ⟨rfl, rfl⟩
      · rw [if_pos hz]
        have hz' : ((bval s.L : Int) != 0) = true := by simp; omega
        go_enter Tryz.func47, Tryz.ntmps47
        go_wp2_with (go_at_call 91; refine hn.mono ?_; rintro e w' ⟨rfl, hw'⟩; obtain rfl := hw'.symm)
        refine bodyPost_ret (results_tmp rfl _ _ _) rfl ⟨rfl, rfl⟩
  · rw [if_pos hb]
    have hb' : ((s.bad : Int) != 0) = true := by simp; omega
    go_enter Tryz.func47, Tryz.ntmps47
    go_wp2
    refine bodyPost_ret (results_tmp rfl _ _ _) rfl ⟨rfl, rfl⟩

theorem rr_shape {b : Nat} {s : Rs} {w : World} {F : List HProp} (H : Holds w (qS b s :: F)) : ∃ a c, Holds w (pts b (.cells #[.slice a s.L.length c, .int .i64 (s.bad : Nat)] 114 (0, 0)) :: part 5 (.slice a s.L.length c) s.L.length (bv (nums s.L)) :: F) ∧
    ((a = none ∧ s.L.length = 0 ∧ c = 0) ∨ ∃ g off, a = some ⟨g, off, none⟩ ∧ s.L.length ≤ c ∧ c ≤ maxLen) := by
  obtain ⟨v, H1⟩ := qS_open H
  obtain ⟨x, ⟨a, b', hab, rfl, ⟨hl, ha⟩, hb⟩, hw⟩ := H1.swap
  rcases ha with ⟨rfl, h2, _⟩ | ⟨g, off, cap, cs, rfl, h1, h2, rfl, h3⟩
  · refine ⟨none, 0, ?_, .inl ⟨rfl, h2, rfl⟩⟩
    rw [h2] at H1 ⊢
    exact H1
  · exact ⟨some ⟨g, off, none⟩, cap, H1, .inr ⟨g, off, rfl, h1, h2⟩⟩

set_option maxRecDepth 100000 in
set_option maxHeartbeats 1000000 in
theorem rrBits_c (b : Nat) (n : Int) (s : Rs) (w : World) (F : List HProp) (H : Holds w (qS b s :: F)) :
    Calls Tryz.prog 44 #[.pointer (some ⟨b, 0, none⟩), .int .i64 n] w (Ret w (.int .u64 ((s.bits n).1 : Nat)) (qS b (s.bits n).2 :: F)) := by
  have hr10 := rrRefuse_c b 10 s w F H
  have hr12 := rrRefuse_c b 12 s w F H
  obtain ⟨a, c, H1, hac⟩ := rr_shape H
  have c0 := H1.cell 0
  have c1 := H1.cell 1
  simp at c0 c1
  unfold Rs.bits
  by_cases hn : n < 0 ∨ 64 < n
  · rw [if_pos hn]
    have hnb : (s.refuse 10).bad ≠ 0 := refuse_bad s (by decide)
    have hb1 : (((s.refuse 10).bad : Int) == 0) = false := by simp; omega
    have hb2 : (((s.refuse 10).bad : Int) != 0) = true := by simp; omega
    rcases hn with hn | hn
    all_goals
      go_enter Tryz.func44, Tryz.ntmps44
      go_wp2_with (go_at_call 90; refine hr10.mono ?_; rintro e w' ⟨rfl, H', S'⟩; obtain ⟨v', H2⟩ := qS_open H'; have d1 := H2.cell 1; simp at d1)
      refine bodyPost_ret (results_tmp rfl _ _ _) rfl ⟨rfl, H', S'⟩
  · rw [if_neg hn]
    have hn0 : 0 ≤ n := by omega
    have hn64 : n ≤ 64 := by omega
    by_cases hb : s.bad = 0
    · rw [hb] at c1
      by_cases hl : (s.L.length : Int) < n
      · rw [if_pos hl]
        have hnb : (s.refuse 12).bad ≠ 0 := refuse_bad s (by decide)
        have hb2 : (((s.refuse 12).bad : Int) != 0) = true := by simp; omega
        go_enter Tryz.func44, Tryz.ntmps44
        go_wp2_with (go_at_call 90; refine hr12.mono ?_; rintro e w' ⟨rfl, H', S'⟩; obtain ⟨v', H2⟩ := qS_open H'; have d1 := H2.cell 1; simp at d1)
        refine bodyPost_ret (results_tmp rfl _ _ _) rfl ⟨rfl, H', S'⟩
      · rw [if_neg hl, if_neg (by omega)]
        obtain ⟨m, rfl⟩ := Int.eq_ofNat_of_zero_le hn0
        rw [Int.toNat_natCast]
        go_enter Tryz.func44, Tryz.ntmps44
        rcases hac with ⟨rfl, h0, rfl⟩ | ⟨g, off, rfl, hc1, hc2⟩
        · obtain rfl : m = 0 := by omega
          have hnil : s.L = [] := List.eq_nil_of_length_eq_zero h0
          have hv0 : SliceIs w 1 (.slice none 0 0) ([] : List Bool).length (bv (nums [])) := ⟨rfl, .inl ⟨rfl, rfl⟩⟩
          go_wp2_with fail
          refine (number_c _ [] w hv0 (by simp)).mono ?_
          rintro e w' ⟨rfl, hw'⟩
          obtain rfl := hw'.symm
          have z0 := H1.free 0
          go_wp2_with fail
          go_ret
          refine ⟨?_, ?_, (Str.refl w).setCell _ _⟩
          · rw [hnil]; rfl
          · refine qS_shut (v := .slice none 0 0) (L := []) (bad := 0) (by rw [hnil]; rfl) hb ?_
            have e := (part_drop (H1.store 0 (.slice none 0 0)).swap (Nat.zero_le _)).1 rfl rfl
            rw [hnil, hb] at e
            exact e.swap
        · have key : ∀ off' c', (off' = off + m ∨ s.L.length - m = 0) → s.L.length - m ≤ c' → c' ≤ maxLen → Holds (w.setCell ⟨b, 0, none⟩ (.slice (some ⟨g, off', none⟩) (s.L.length - m) c')) (qS b ⟨s.L.drop m, 0⟩ :: F) := by
            intro off' c' h1 h2 h3
            refine qS_shut (v := .slice (some ⟨g, off', none⟩) (s.L.length - m) c') (L := s.L.drop m) (bad := 0) rfl rfl ?_
            rw [List.length_drop, show bv (nums (s.L.drop m)) = (bv (nums s.L)).drop m by simp [bv, nums, List.map_drop]]
            have e := (part_drop (H1.store 0 (.slice (some ⟨g, off', none⟩) (s.L.length - m) c')).swap (show m ≤ s.L.length by omega)).2 g off c' rfl h2 h3 off' h1
            rw [hb] at e
            exact e.swap
          have key := Lib.hid key
          have hsl : SliceIs w 1 (.slice (some ⟨g, off, none⟩) m c) (s.L.take m).length (bv (nums (s.L.take m))) := by
            have h := part_is H1.swap
            rcases h.2 with ⟨h1, _⟩ | ⟨ad, cap, h1, _, _, h2⟩
            · simp at h1
            · simp only [Value.slice.injEq, Option.some.injEq] at h1
              obtain ⟨rfl, _, rfl⟩ := h1
              refine ⟨by simp [length_nums], .inr ⟨_, _, by rw [List.length_take, Nat.min_eq_left (by omega)], by rw [List.length_take]; omega, hc2, fun j x hj => h2 j x ?_⟩⟩
              have e : bv (nums (s.L.take m)) = (bv (nums s.L)).take m := by simp [bv, nums, List.map_take]
              rw [e, List.getElem?_take] at hj
              split at hj
              · exact hj
              · cases hj
          unfold maxLen at hc2
          have z0 := H1.free 0
          go_wp2_with fail
          refine (number_c _ _ w hsl (by rw [List.length_take]; omega)).mono ?_
          rintro e w' ⟨rfl, hw'⟩
          obtain rfl := hw'.symm
          go_wp2_with fail
          all_goals
            go_ret
            exact ⟨rfl, key.out _ _ (by first | exact .inl rfl | exact .inr (by omega)) (by omega) (by unfold maxLen; omega), (Str.refl w).setCell _ _⟩
    · have hb1 : ((s.bad : Int) == 0) = false := by simp; omega
      have hb2 : ((s.bad : Int) != 0) = true := by simp; omega
      have e12 : s.refuse 12 = s := if_neg hb
      rw [e12]
      have e2 : (if (s.L.length : Int) < n then (0, s) else if s.bad ≠ 0 then (0, s) else (bval (s.L.take n.toNat), ⟨s.L.drop n.toNat, s.bad⟩)) = ((0, s) : Nat × Rs) := by
        split <;> rfl
      rw [e2]
      go_enter Tryz.func44, Tryz.ntmps44
      go_wp2_with fail
      refine bodyPost_ret (results_tmp rfl _ _ _) rfl ⟨rfl, H, Str.refl w⟩
end Go.Proofs.YtakaolcajbhkiaaGreat

namespace Go.Proofs.YtakaolcajbhkiaaGreat
set_option linter.unusedVariables false
set_option linter.unusedSimpArgs false
open Go.RowKit Go.SL Go.Fm

theorem beq_one (a : Nat) : ((a : Int) == 1) = decide (a = 1) := by
  by_cases h : a = 1
  · subst h; rfl
  · rw [decide_eq_false h]; simp; omega
set_option maxRecDepth 100000 in
theorem Back_c (u : Nat) (hu : u < 18446744073709551616) (w : World) : Calls Tryz.prog 46 #[.int .u64 u] w (fun e w' => e = .returned (.int .i64 (unzig u)) ∧ w' = w) := by
  unfold unzig
  by_cases h : u % 2 = 1
  · rw [if_pos h]
    have h2 : (u : Int) % 2 = 1 := by omega
    go_enter Tryz.func46, Tryz.ntmps46
    go_wp2
    go_ret
    refine ⟨ret_int ?_, rfl⟩
    omega
  · rw [if_neg h]
    have h2 : (u : Int) % 2 = 0 := by omega
    go_enter Tryz.func46, Tryz.ntmps46
    go_wp2
    go_ret
    refine ⟨ret_int ?_, rfl⟩
    omega
end Go.Proofs.YtakaolcajbhkiaaGreat

namespace Go.Proofs.YtakaolcajbhkiaaGreat
set_option linter.unusedVariables false
set_option linter.unusedSimpArgs false
open Go.RowKit Go.SL Go.Fm

theorem u8_one (b : Bool) : (((b.toNat : Nat) : Int) == 1) = b := by cases b <;> rfl
theorem ones_get {l : List Bool} {j : Nat} (h : j < ones l) : l[j]? = some true := by
  induction l generalizing j with
  | nil => simp [ones] at h
  | cons b l ih =>
    cases b with
    | false => simp [ones] at h
    | true =>
      cases j with
      | zero => rfl
      | succ j => exact ih (by simpa [ones] using h)
theorem ones_end {l : List Bool} (h : ones l < l.length) : l[ones l]? = some false := by
  have e := ones_split l (by omega)
  have h2 : (List.replicate (ones l) true ++ false :: l.drop (ones l + 1))[ones l]? = some false := by
    rw [List.getElem?_append_right (by simp)]
    simp
  rw [← e] at h2
  exact h2

end Go.Proofs.YtakaolcajbhkiaaGreat
