/- The append law of the logic of memory, at a step of a region that draws its order. -/
import Derived.Test.YtakaolcajbhkiaaGreatSL
import Derived.Deep.RegionLaw
namespace Go.SL
set_option linter.unusedVariables false
set_option linter.unusedSimpArgs false
open Go.RowKit

theorem step_append_sl {P : Program} {ops : Array Oper} {o : Oper} {a : Act} {w : World} {F : List HProp} {E : TypeId} {s n m : Nat} {v x : Value} {xs news : List Value} {K : Act → World → Prop} {Q : Exit → Act → World → Prop} {El : Prop}
    (hgd : o.guard = none) (so xo : Operand) (t : TypeId)
    (ho : o.op = .call { callee := .builtin .append, args := #[so, xo], argTypes := #[t, t] }) (i : TypeInfo) (z : Value) {bytes : Nat} (ht : P.underlying t = some (.slice E)) (hi : P.info? E = some i) (hz : i.zero = some z)
    (hsize : i.size = s) (hby : i.bytes = bytes) (hzs : z.cells.size = s) (hsz : 0 < s) (hs : a.eval so = v) (hxo : a.eval xo = x) (h : Holds w (own E s v n xs :: F)) (hx : SliceIs w s x m news) (h1 : ∀ u ∈ news, u.oneCell' = true)
    (hbytes : (n + m) * bytes ≤ 140737488355328) (h63 : n + m ≤ maxLen)
    (hK : ∀ v' w', Holds w' (own E s v' (n + m) (xs ++ news) :: F) → Str w w' → K (a.put o.dst v') w') :
    if Region.wanted o (yielded ops a.tmps) = true then Oper.wp P o a w K Q else El := by
  have hw : Region.wanted o (yielded ops a.tmps) = true := by simp [Region.wanted, hgd]
  rw [if_pos hw]
  exact wp_append_sl so xo t ho i z ht hi hz hsize hby hzs hsz hs hxo h hx h1 hbytes h63 hK
/-- A scope in which the run jumps ahead to a label, at most once. -/
theorem wp_scope_fwd {P : Program} {a : Act} {w : World} {Q : Exit → Act → World → Prop} {c rest : Code} (l : Nat) (hf : findLabel c l = some (.seq .skip rest))
    (first : c.wp P (Exit.jump l (fun a' w' => rest.wp P (Exit.jump l (fun _ _ => False) Q) a' w') Q) a w) : (Code.scope c).wp P Q a w := by
  refine wp_scope_jumps l (fun a' w' => rest.wp P (Exit.jump l (fun _ _ => False) Q) a' w') (fun _ _ => 0) (rest := .seq .skip rest) hf first (fun a w hJ => wp_seq (wp_skip (wp_mono hJ ?_)))
  intro e a' w' h
  cases e with
  | goto l' => exact ⟨h.1, h.2.elim⟩
  | _ => exact h
/-- The assertions in another order: the numbers of those that come first, then the rest as it is. -/
theorem range_getD {α : Type} (l : List α) (d : α) : (List.range l.length).map (fun i => l.getD i d) = l := by
  apply List.ext_getElem
  · simp
  · intro i h1 h2
    simp [List.getD, List.getElem?_eq_getElem h2]
theorem Holds.ord {w : World} {l F : List HProp} (h : Holds w (l ++ F)) (is : List Nat) (hp : is.isPerm (List.range l.length) = true) :
    Holds w (is.map (fun i => l.getD i (fun h => h = hemp)) ++ F) := by
  refine h.perm (List.Perm.append_right F ?_)
  have h1 := (List.isPerm_iff.1 hp).map (fun i => l.getD i (fun h => h = hemp))
  rw [range_getD] at h1
  exact h1.symm
end Go.SL
