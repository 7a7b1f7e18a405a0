/- The law TimesExact, walked. -/
import Derived.Test.YtakaolcajbhkiaaGreatDT8
import Derived.Test.YtakaolcajbhkiaaGreatDT5
import Derived.Test.YtakaolcajbhkiaaGreatLTOne
namespace Go.Proofs.YtakaolcajbhkiaaGreat
open Go.RowKit Go.SL Go.Fm
set_option linter.unusedVariables false
set_option linter.unusedSimpArgs false
def bk0 : Bk := ⟨.slice none 0 0, .slice none 0 0, 0, .slice none 0 0, .slice none 0 0, 0, .slice none 0 0, .slice none 0 0, 0, .slice none 0 0, .slice none 0 0, 0, 0, 0, 0⟩
theorem kindS_nil {TL TO E : TypeId} {mk : Nat → Nat → Value} {w : World} {F : List HProp} (h : Holds w F) : Holds w (kindS TL TO E mk (.slice none 0 0) (.slice none 0 0) [] :: F) :=
  kindS_shut (l := []) (by simp) (Holds.own_nil (Holds.own_nil (rows_nil h)))
theorem KdOk.nil {c : Nat} : KdOk c [] 0 0 0 := ⟨by simp, by simp, by simp, by simp⟩
theorem book_new {b : Nat} {w : World} {F : List HProp} (h : Holds w (bkP b bk0 :: F)) : Holds w (bookS b 0 :: F) := by
  have h1 : Holds w (kB bk0 ⟨[], [], [], []⟩ :: kW bk0 ⟨[], [], [], []⟩ :: kS bk0 ⟨[], [], [], []⟩ :: kT bk0 ⟨[], [], [], []⟩ :: bkP b bk0 :: F) := kindS_nil (kindS_nil (kindS_nil (kindS_nil h)))
  have h2 := Holds.ord (l := [_, _, _, _, _]) h1 [4, 0, 1, 2, 3] rfl
  exact bookS_shut (k1 := 0) (k2 := 0) ⟨Nat.le_refl _, by decide, by decide, KdOk.nil, KdOk.nil, KdOk.nil, KdOk.nil⟩ h2
theorem wp_buildBook {o : Oper} {a : Act} {w : World} {K : Act → World → Prop} {Q : Exit → Act → World → Prop} (ho : o.op = .build 50 #[]) (h : K (a.put o.dst (.agg (bkCells bk0))) w) : o.wp Tryz.prog a w K Q := by
  have e : Program.built Tryz.prog 50 [] = some (bkCells bk0) := by kernel_rfl
  unfold Oper.wp execOp
  simp only [ho, Sem.run_bind, run_build w 50 _ _ e, Result.andThen_ok, Array.map_empty]
  exact h
theorem lentW_is {v : Value} {B : List Nat} {w : World} {F : List HProp} (H : Holds w (lent v B :: F)) : SliceIs w 1 v B.length (bv B) := by
  obtain ⟨rest, H⟩ := Holds.elim H
  exact H.ownR_is
theorem alloc_size (w : World) (o : Obj) : (w.alloc o).heap.size = w.heap.size + 1 := by simp
/-- What the two lists hold so far. -/
structure ExOk (k : Nat) (es : List Lt) (T : Nat) : Prop where
  n : T + es.length ≤ k
  B : ∀ e ∈ es, e.B.length ≤ 40000
/-- Behind the first loop. -/
def Ex1 (w : World) (F : List HProp) (cs : Array Value) (s5 : Value) (wc : World) : Prop :=
  ∃ (al : Nat) (es : List Lt) (T : Nat), al ≤ 100000000000000 ∧ s5 = .int .i64 al ∧ ExOk 200 es T ∧ Holds wc (pts w.heap.size (.cells cs 26 (0, 0)) :: lateL (w.heap.size + 1 + 1) es :: bookS (w.heap.size + 1) T :: F) ∧ Str w wc

set_option maxRecDepth 100000 in
set_option maxHeartbeats 16000000 in
theorem TimesExact_c (v0 v1 v2 : Value) (L : List (List Int)) (B : List (List Nat)) (N : List Int) (w : World) (F : List HProp) (H : Holds w F) (hL : RowsSeen F iv v0 L) (hI : ∀ l ∈ L, I64 l ∧ l.length ≤ 20000000000000)
    (hB : RowsSeen F bv v1 B) (hb : ∀ b ∈ B, (∀ x ∈ b, x < 256) ∧ b.length ≤ 200000000000000) (hN : Sees F 1 v2 N.length (iv N)) (hIN : I64 N) (hNl : N.length ≤ maxLen) :
    Calls Tryz.prog 3 #[.agg #[v0, v1, v2]] w (Ret w (.bool true) F) := by
  obtain ⟨a0, k0, rfl⟩ := hL.shape H
  obtain ⟨a1, k1, rfl⟩ := hB.shape H
  obtain ⟨a2, k2, rfl⟩ := slice_shape' (hN w H)
  have HB := ((H.alloc (.cells #[.slice a0 L.length k0, .slice a1 B.length k1, .slice a2 N.length k2] 26)).alloc (.cells (bkCells bk0) 50)).alloc (.cells #[.slice none 0 0, .slice none 0 0] 53)
  have SB := (((Str.refl w).alloc (.cells #[.slice a0 L.length k0, .slice a1 B.length k1, .slice a2 N.length k2] 26)).alloc (.cells (bkCells bk0) 50)).alloc (.cells #[.slice none 0 0, .slice none 0 0] 53)
  simp only [alloc_size] at HB
  have HB2 := lateL_nil HB
  have HB3 := Holds.ord (l := [_, _, _]) (book_new HB2.swap) [2, 1, 0] rfl
  simp only [List.map, List.getD_cons_zero, List.getD_cons_succ, List.cons_append, List.nil_append] at HB3
  clear HB HB2
  unfold maxLen at hNl
  go_enter Tryz.func3, Tryz.ntmps3
  go_wp2
  refine wp_buildBook rfl ?_
  go_upto_block 0 with fail
  go_cut [5] (fun s5 wc => Ex1 w F #[.slice a0 L.length k0, .slice a1 B.length k1, .slice a2 N.length k2] s5 wc)
  case first =>
    go_wp2_with fail
    go_loopw [5, 6] (fun s5 s6 wl => ∃ (i al : Nat) (es : List Lt) (T : Nat), i ≤ 100 ∧ al ≤ 16384 ∧ s5 = .int .i64 al ∧ s6 = .int .i64 i ∧ ExOk (2 * i) es T ∧ Holds wl (pts w.heap.size (.cells #[.slice a0 L.length k0, .slice a1 B.length k1, .slice a2 N.length k2] 26 (0, 0)) :: lateL (w.heap.size + 1 + 1) es :: bookS (w.heap.size + 1) T :: F) ∧ Str w wl) (fun _ s6 _ => (200 - intOf s6).toNat)
    case atStart => exact ⟨0, 0, _, _, by omega, by omega, rfl, rfl, ⟨by simp, by simp⟩, HB3, SB⟩
    case round =>
      clear HB3 SB
      obtain ⟨i, al, es, T, hi, hal, rfl, rfl, hok, Hr, Sr⟩ := hrel
      obtain ⟨hnT, hBs⟩ := hok
      replace hnT := Lib.hid hnT
      replace hBs := Lib.hid hBs
      have cb := Hr.cell 0
      simp at cb
      by_cases hin : i < L.length ∧ i < 100
      · obtain ⟨hiL, hi100⟩ := hin
        obtain ⟨g, off, cap, u, hv, hcap, hcm, hcu, hsu⟩ := hL.row Hr.tail.tail.tail hiL
        simp only [Value.slice.injEq] at hv
        obtain ⟨rfl, _, rfl⟩ := hv
        obtain ⟨l, hl⟩ : ∃ l, l = L[i] := ⟨_, rfl⟩
        obtain ⟨hil, hlm⟩ := hI _ (List.getElem_mem hiL)
        rw [← hl] at hsu hil hlm
        rw [length_iv] at hsu
        replace hl := Lib.hid hl
        unfold maxLen at hcm
        obtain ⟨au, cu, rfl⟩ := slice_shape' (hsu _ Hr.tail.tail.tail)
        by_cases hall : 16384 < al + l.length
        · have hall' : (16384 : Int) < (al : Int) + l.length := by omega
          go_wp2_with fail
          go_meet
          case rel => exact ⟨al + l.length, es, T, by omega, by congr 1, ⟨by have := hnT.out; omega, hBs.out⟩, Hr, Sr⟩
        · have hall' : ¬ (16384 : Int) < (al : Int) + l.length := by omega
          have H0 := Hr.swap
          have kP := packs_c (.slice au l.length cu) (w.heap.size + 1 + 1) l es wr _ H0 hsu.cons.cons hil (by omega) (by have := hnT.out; omega)
          go_wp2_with (go_at_call 4; refine kP.mono ?_; rintro e w1 ⟨rfl, es1, hes1, H1, S1⟩)
          have hl1 := hes1.1
          have hB1 : ∀ e ∈ es1, e.B.length ≤ 40000 := fun e he => (hes1.2 e he).elim (hBs.out e) id
          clear hes1
          replace hl1 := Lib.hid hl1
          replace hB1 := Lib.hid hB1
          have H1' := Holds.ord (l := [_, _, _]) H1 [0, 2, 1] rfl
          simp only [List.map, List.getD_cons_zero, List.getD_cons_succ, List.cons_append, List.nil_append] at H1'
          refine (lateSettle_c (w.heap.size + 1 + 1) (w.heap.size + 1) T 6 es1 _ _ H1' (by have := hl1.out; have := hnT.out; omega) (by have := hnT.out; omega) (fun e he => by have := hB1.out e he; omega) (by omega)).mono ?_
          rintro e w2 ⟨rfl, es2, T2, hes2, H2, S2⟩
          have H2' := Holds.ord (l := [_, _, _]) H2 [2, 0, 1] rfl
          simp only [List.map, List.getD_cons_zero, List.getD_cons_succ, List.cons_append, List.nil_append] at H2'
          replace hes2 := Lib.hid hes2
          go_wp2_with fail
          go_roundw
          case rel =>
            refine ⟨i + 1, al + l.length, es2, T2, by omega, by omega, by congr 1, by congr 1, ⟨by have := hes2.out.2; have := hl1.out; have := hnT.out; omega, ?_⟩, H2', (Sr.trans S1).trans S2⟩
            intro e he
            rcases hes2.out.1 with h | h
            · rw [h] at he; exact hB1.out e he
            · rw [h] at he; cases he
          case measure => (simp [intOf] <;> omega)
      · have hcase : i < L.length ∨ ¬ i < L.length := by omega
        rcases hcase with hjl | hjl
        all_goals
          go_wp2_with fail
          go_meet
          case rel => exact ⟨al, es, T, by omega, rfl, ⟨by have := hnT.out; omega, hBs.out⟩, Hr, Sr⟩
  case rest =>
    clear HB3 SB
    obtain ⟨al, es, T, hal, rfl, hok, H1, S1⟩ := hcut
    obtain ⟨hnT, hBs⟩ := hok
    replace hnT := Lib.hid hnT
    replace hBs := Lib.hid hBs
    go_wp2_with fail
    go_loopw [5, 7] (fun s5 s7 wl => ∃ (i al T : Nat), i ≤ 100 ∧ al ≤ 100000000000000 ∧ s5 = .int .i64 al ∧ s7 = .int .i64 i ∧ T + es.length ≤ 200 + 4 * i ∧ Holds wl (pts w.heap.size (.cells #[.slice a0 L.length k0, .slice a1 B.length k1, .slice a2 N.length k2] 26 (0, 0)) :: lateL (w.heap.size + 1 + 1) es :: bookS (w.heap.size + 1) T :: F) ∧ Str w wl) (fun _ s7 _ => (200 - intOf s7).toNat)
    case atStart => exact ⟨0, al, T, by omega, hal, rfl, rfl, by have := hnT.out; omega, H1, S1⟩
    case round =>
      clear H1 S1 hnT hal
      obtain ⟨i, al, T, hi, hal, rfl, rfl, hnT, Hr, Sr⟩ := hrel
      replace hnT := Lib.hid hnT
      have cb := Hr.cell 1
      have cb2 := Hr.cell 2
      simp at cb cb2
      by_cases hin : i < B.length ∧ i < 100
      · obtain ⟨hiL, hi100⟩ := hin
        obtain ⟨g, off, cap, u, hv, hcap, hcm, hcu, hsu⟩ := hB.row Hr.tail.tail.tail hiL
        simp only [Value.slice.injEq] at hv
        obtain ⟨rfl, _, rfl⟩ := hv
        obtain ⟨b, hbb⟩ : ∃ b, b = B[i] := ⟨_, rfl⟩
        obtain ⟨hil, hlm⟩ := hb _ (List.getElem_mem hiL)
        rw [← hbb] at hsu hil hlm
        rw [length_bv] at hsu
        replace hbb := Lib.hid hbb
        unfold maxLen at hcm
        obtain ⟨au, cu, rfl⟩ := slice_shape' (hsu _ Hr.tail.tail.tail)
        obtain ⟨Q, hQ⟩ : ∃ Q : Nat, Q = b.length / 8 := ⟨_, rfl⟩
        have hq : ((b.length : Int)).tdiv 8 = (Q : Int) := by rw [Int.tdiv_eq_ediv_of_nonneg (by omega), hQ]; omega
        have hq2 : (b.length : Int) / 8 = (Q : Int) := by rw [hQ]; omega
        have hQl : Q ≤ 25000000000000 := by rw [hQ]; omega
        replace hQ := Lib.hid hQ
        by_cases hall : 32768 < al + Q
        · have hall' : (32768 : Int) < (al : Int) + (Q : Int) := by omega
          go_upto_region 27 with fail
          have Hx := Holds.ord (l := [_, _, _]) Hr [1, 2, 0] rfl
          simp only [List.map, List.getD_cons_zero, List.getD_cons_succ, List.cons_append, List.nil_append] at Hx
          go_wp2_with (go_at_call 5; refine (lateSettle_c (w.heap.size + 1 + 1) (w.heap.size + 1) T 0 es _ _ Hx (by have := hnT.out; omega) (by have := hnT.out; omega) (fun e he => by have := hBs.out e he; omega) (by omega)).mono ?_; rintro e w2 ⟨rfl, es2, T2, hes2, H2, S2⟩)
          have hT2 : T2 ≤ 900000000000 := by have := hes2.2; have := hnT.out; omega
          clear hes2
          refine (bkLook_c (w.heap.size + 1) T2 _ _ H2.swap hT2).mono ?_
          rintro e w3 ⟨rfl, H3, S3⟩
          go_wp2_with fail
          refine (works6_c _ _ H3).mono ?_
          rintro e w4 ⟨rfl, H4, S4⟩
          go_wp2_with fail
          refine bodyPost_ret (results_tmp rfl _ _ _) rfl ⟨rfl, H4.tail.tail.tail, ((Sr.trans S2).trans S3).trans S4⟩
        · have hall' : ¬ (32768 : Int) < (al : Int) + (Q : Int) := by omega
          go_upto_if 78 with fail
          go_cut [9] (fun s9 wc => ∃ nn : Int, -9223372036854775808 ≤ nn ∧ nn ≤ 9223372036854775807 ∧ s9 = .int .i64 nn ∧ wc = wr)
          case first =>
            by_cases hiN : i < N.length
            · obtain ⟨g2, off2, cap2, hv2, hcap2, hcm2, hc2⟩ := (hN _ Hr.tail.tail.tail).at (by omega)
              simp only [Value.slice.injEq] at hv2
              obtain ⟨rfl, _, rfl⟩ := hv2
              unfold maxLen at hcm2
              have d2 := hc2 i _ (iv_at hiN)
              obtain ⟨q1, q2⟩ := hIN.getD i
              obtain ⟨t, ht⟩ : ∃ t, t = N.getD i 0 := ⟨_, rfl⟩
              rw [← ht] at d2 q1 q2
              replace ht := Lib.hid ht
              clear hc2
              go_wp2_with fail
              go_meet
              case rel => exact ⟨t, q1, q2, rfl, rfl⟩
            · go_wp2_with fail
              go_meet
              case rel => exact ⟨0, by omega, by omega, rfl, rfl⟩
          case rest =>
            obtain ⟨nn, q1, q2, rfl, hwc⟩ := hcut
            obtain rfl := hwc.symm
            clear q1 q2
            have hbl : b.length ≤ 1000000 := by have := hQ.out; omega
            replace hlm := Lib.hid hlm
            go_wp2_with (go_at_call 6; refine (Lend_c _ b _ _ Hr hsu.cons.cons.cons (by omega)).mono ?_; rintro e w1 ⟨vi, rfl, H1, S1⟩)
            have H1a : Holds w1 (lent vi b :: _) := H1
            have H1b := Holds.ord (l := [_, _, _, _]) H1a [3, 0, 1, 2] rfl
            simp only [List.map, List.getD_cons_zero, List.getD_cons_succ, List.cons_append, List.nil_append] at H1b
            refine (unpacks_c vi (.slice au b.length cu) b nn (w.heap.size + 1) T _ _ H1b (fun w h => lentW_is h) hsu.cons.cons.cons hil (by omega) (by have := hnT.out; omega)).mono ?_
            rintro e w2 ⟨rfl, H2, S2⟩
            have H2b := H2.swap
            go_wp2_with (go_at_call 8; refine (Intact_c vi (.slice au b.length cu) b _ _ H2b hsu.cons.cons.cons (by omega)).mono ?_; rintro e w3 ⟨rfl, H3, S3⟩)
            refine (Other_c (.slice au b.length cu) b _ _ H3 hsu.cons.cons.cons.cons hil (by omega)).mono ?_
            rintro e w4 ⟨vo, C, rfl, ⟨hC, hCb⟩, H4, S4⟩
            have H4b := H4.swap
            go_wp2_with (go_at_call 10; refine (Into_c vi vo b C _ _ H4b sees_own hC (by omega)).mono ?_; rintro e w5 ⟨rfl, H5, S5⟩)
            have H5b := Holds.ord (l := [_, _, _]) H5 [2, 0, 1] rfl
            simp only [List.map, List.getD_cons_zero, List.getD_cons_succ, List.cons_append, List.nil_append] at H5b
            refine (unpacks_c vi vo C nn (w.heap.size + 1) (T + 2) _ _ H5b (fun w h => lentW_is h) sees_own.cons hCb (by omega) (by have := hnT.out; omega)).mono ?_
            rintro e w6 ⟨rfl, H6, S6⟩
            go_wp2_with (go_at_call 11; refine (bkLook_c (w.heap.size + 1) (T + 2 + 2) _ _ H6 (by have := hnT.out; omega)).mono ?_; rintro e w7 ⟨rfl, H7, S7⟩)
            have H7b := Holds.ord (l := [_, _, _, _, _]) H7 [1, 2, 3, 4, 0] rfl
            simp only [List.map, List.getD_cons_zero, List.getD_cons_succ, List.cons_append, List.nil_append] at H7b
            go_roundw
            case rel => exact ⟨i + 1, al + Q, T + 2 + 2, by omega, by omega, by congr 1, by congr 1, by have := hnT.out; omega, H7b.tail.tail, ((((((Sr.trans S1).trans S2).trans S3).trans S4).trans S5).trans S6).trans S7⟩
            case measure => (simp [intOf] <;> omega)
      · have hcase : i < B.length ∨ ¬ i < B.length := by omega
        rcases hcase with hjl | hjl
        all_goals
          go_upto_region 27 with fail
          have Hx := Holds.ord (l := [_, _, _]) Hr [1, 2, 0] rfl
          simp only [List.map, List.getD_cons_zero, List.getD_cons_succ, List.cons_append, List.nil_append] at Hx
          go_wp2_with (go_at_call 5; refine (lateSettle_c (w.heap.size + 1 + 1) (w.heap.size + 1) T 0 es _ _ Hx (by have := hnT.out; omega) (by have := hnT.out; omega) (fun e he => by have := hBs.out e he; omega) (by omega)).mono ?_; rintro e w2 ⟨rfl, es2, T2, hes2, H2, S2⟩)
          have hT2 : T2 ≤ 900000000000 := by have := hes2.2; have := hnT.out; omega
          clear hes2
          refine (bkLook_c (w.heap.size + 1) T2 _ _ H2.swap hT2).mono ?_
          rintro e w3 ⟨rfl, H3, S3⟩
          go_wp2_with fail
          refine (works6_c _ _ H3).mono ?_
          rintro e w4 ⟨rfl, H4, S4⟩
          go_wp2_with fail
          refine bodyPost_ret (results_tmp rfl _ _ _) rfl ⟨rfl, H4.tail.tail.tail, ((Sr.trans S2).trans S3).trans S4⟩
end Go.Proofs.YtakaolcajbhkiaaGreat
