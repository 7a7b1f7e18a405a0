/- The things that the program keeps, as assertions on memory: a writer of bits. Types' numbers are parameters; no program is in sight. -/
import Derived.Test.YtakaolcajbhkiaaGreatSL
import Derived.Test.YtakaolcajbhkiaaGreatBits
import Derived.Laws.BytesArg
namespace Go.SL
set_option linter.unusedVariables false
set_option linter.unusedSimpArgs false
open Go.RowKit Go.Fm

/-- Bytes as values. -/
def bv (l : List Nat) : List Value := l.map fun x : Nat => Value.int .u8 (x : Int)
@[simp] theorem length_bv (l : List Nat) : (bv l).length = l.length := by simp [bv]
theorem bv_append (l m : List Nat) : bv (l ++ m) = bv l ++ bv m := by simp [bv]
theorem bv_one (x : Nat) : bv [x] = [Value.int .u8 (x : Int)] := rfl
theorem bv_cell {l : List Nat} : ∀ u ∈ bv l, u.oneCell' = true := by
  intro u hu
  obtain ⟨x, _, rfl⟩ := List.mem_map.1 hu
  rfl

theorem bv_at {l : List Nat} {i : Nat} (h : i < l.length) : (bv l)[i]? = some (.int .u8 (l[i] : Nat)) := by simp [bv, h]
theorem getD_cast {l : List Nat} {i : Nat} (h : i < l.length) : (l.map fun y : Nat => (y : Int)).getD i 0 = (l[i] : Nat) := by simp [List.getD, h]
/-- Bytes as a text. -/
def bstr (B : List Nat) : ByteArray := strOfNums (B.map fun x : Nat => (x : Int))
theorem bstr_inj {B C : List Nat} (hB : ∀ x ∈ B, x < 256) (hC : ∀ x ∈ C, x < 256) (h : bstr B = bstr C) : B = C := by
  have h1 : (bstr B).data.toList = (bstr C).data.toList := by rw [h]
  unfold bstr at h1
  rw [strOfNums_data, strOfNums_data, List.map_map, List.map_map] at h1
  clear h
  induction B generalizing C with
  | nil =>
    cases C with
    | nil => rfl
    | cons y C => simp at h1
  | cons x B ih =>
    cases C with
    | nil => simp at h1
    | cons y C =>
      simp only [List.map_cons, List.cons.injEq, Function.comp_apply, Int.toNat_natCast] at h1
      have hx := hB x (by simp)
      have hy := hC y (by simp)
      have e : x = y := by
        have := congrArg UInt8.toNat h1.1
        simpa [Nat.mod_eq_of_lt hx, Nat.mod_eq_of_lt hy] using this
      rw [e, ih (fun z hz => hB z (by simp [hz])) (fun z hz => hC z (by simp [hz])) h1.2]
/-- string(b). -/
theorem conv_str {P : Program} {w : World} {v : Value} {B : List Nat} {src dst e : TypeId} (hs : P.underlying src = some (.slice e)) (he : P.underlying e = some (.int .u8)) (hd : P.underlying dst = some .string)
    (h : SliceIs w 1 v B.length (bv B)) : (convert src dst v).run P w = .ok (.string (bstr B)) w := by
  rcases h.2 with ⟨rfl, h0⟩ | ⟨a, cap, rfl, h1, h2, h3⟩
  · obtain rfl : B = [] := List.eq_nil_of_length_eq_zero h0
    rw [run_convert_bytes_nil w src e hs he 0 0 dst hd]
    rfl
  · cases hB : B with
    | nil =>
      rw [run_convert_bytes_string w src dst e _ _ cap hs he hd, run_bytesToString w a _ cap [] (by simp [loadCells, loadCellsFrom])]
      rfl
    | cons x B' =>
      obtain ⟨g, off, cap', hv, h1', h2', h3'⟩ := h.plain (x := .int .u8 (x : Nat)) (by rw [hB]; rfl)
      rw [hB] at hv h3'
      cases hv
      rw [run_convert_bytes_arg w src e hs he g off _ cap ((x :: B').map fun y : Nat => (y : Int)) (by simp) ?_ dst hd]
      · rfl
      · intro i hi
        rw [h3' i _ (bv_at hi), getD_cast hi]

/-- Numbers of 64 bits as values. -/
def uv (l : List Nat) : List Value := l.map fun x : Nat => Value.int .u64 (x : Int)
@[simp] theorem length_uv (l : List Nat) : (uv l).length = l.length := by simp [uv]
theorem uv_at {l : List Nat} {i : Nat} (h : i < l.length) : (uv l)[i]? = some (.int .u64 (l[i] : Nat)) := by simp [uv, h]
/-- A cell of a slice that is seen. -/
theorem SliceIs.at {w : World} {v : Value} {n : Nat} {xs : List Value} (h : SliceIs w 1 v n xs) (hn : 0 < n) : ∃ g off cap, v = .slice (some ⟨g, off, none⟩) n cap ∧ n ≤ cap ∧ cap ≤ maxLen ∧ ∀ j x, xs[j]? = some x → w.cell? ⟨g, off + j, none⟩ = some x := by
  have hl := h.1
  have : 0 < xs.length := by omega
  exact h.plain (x := xs[0]) (by simp [this])

/-- A writer's struct: its bytes, how many bits, the first refusal. -/
def wr (T E : TypeId) (b : Nat) (L : List Bool) (bad : Int) : HProp := fun h =>
  ∃ v, sep (pts b (.cells #[v, .int .i64 (L.length : Nat), .int .i64 bad] T (0, 0))) (own E 1 v (pack L).length (bv (pack L))) h

theorem wr_open {T E : TypeId} {b : Nat} {L : List Bool} {bad : Int} {w : World} {F : List HProp} (h : Holds w (wr T E b L bad :: F)) :
    ∃ v, Holds w (pts b (.cells #[v, .int .i64 (L.length : Nat), .int .i64 bad] T (0, 0)) :: own E 1 v (pack L).length (bv (pack L)) :: F) := by
  obtain ⟨v, h⟩ := Holds.elim h
  exact ⟨v, h.split⟩
theorem wr_shut {T E : TypeId} {b : Nat} {L : List Bool} {bad : Int} {w : World} {F : List HProp} {v : Value}
    (h : Holds w (pts b (.cells #[v, .int .i64 (L.length : Nat), .int .i64 bad] T (0, 0)) :: own E 1 v (pack L).length (bv (pack L)) :: F)) : Holds w (wr T E b L bad :: F) :=
  h.unsplit.mono fun _ hx => ⟨v, hx⟩

theorem own_shape {E : TypeId} {s n : Nat} {v : Value} {xs : List Value} {w : World} {F : List HProp} (h : Holds w (own E s v n xs :: F)) : ∃ a c, v = .slice a n c := by
  rcases h.own_is.2 with ⟨h, h'⟩ | ⟨a, c, h, _⟩
  · rw [h']; exact ⟨_, _, h⟩
  · exact ⟨_, _, h⟩
theorem ret_int {k : IntKind} {a b : Int} (h : a = b) : Ending.returned (.int k a) = .returned (.int k b) := by rw [h]
theorem ret_bool {a b : Bool} (h : a = b) : Ending.returned (.bool a) = .returned (.bool b) := by rw [h]

/-- What a call hands back: a value, what holds behind it; the streams as they were. -/
def Ret (W : World) (v : Value) (l : List HProp) (e : Ending) (w' : World) : Prop := e = .returned v ∧ Holds w' l ∧ Str W w'

/-- The same of a value that is not known ahead. -/
def RetV (W : World) (f : Value → List HProp) (e : Ending) (w' : World) : Prop := ∃ v, e = .returned v ∧ Holds w' (f v) ∧ Str W w'

end Go.SL
