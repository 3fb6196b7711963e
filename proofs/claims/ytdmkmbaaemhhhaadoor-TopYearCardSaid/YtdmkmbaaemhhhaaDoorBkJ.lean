/-
  Books, run by the machine: whether two are the same.
-/
import Derived.Test.YtdmkmbaaemhhhaaDoorBkI
namespace Go.Proofs.YtdmkmbaaemhhhaaDoor
open Go Go.Ev Go.RowKit Go.Acc
def unEn : List V → Option (List En)
  | [] => some []
  | .agg [.str k, .int .i64 d, .row 2 es] :: r => match unAc es, unEn r with
    | some l, some E => some ((k, d, l) :: E)
    | _, _ => none
  | _ => none
theorem unEn_map : ∀ E : List En, unEn (E.map enW) = some E
  | [] => rfl
  | (k, d, l) :: E => by simp only [List.map_cons, enW, unEn, unAc_map]; rw [show unEn (List.map enW E) = some E from unEn_map E]
theorem unEn_eq : ∀ {es : List V} {E : List En}, unEn es = some E → es = E.map enW
  | [], E, h => by simp only [unEn, Option.some.injEq] at h; subst h; rfl
  | v :: es, E, h => by
    unfold unEn at h
    split at h
    · rename_i heq; cases heq
    · rename_i k d fs r heq
      cases heq
      split at h
      · rename_i l E' h1 h2
        simp only [Option.some.injEq] at h
        subst h
        rw [unEn_eq h2, unAc_eq h1]
        rfl
      · cases h
    · cases h
/-- entries as a value: a row, or none -/
def rowEn : V → Option (List En)
  | .row 3 es => unEn es
  | .zero => some []
  | _ => none
theorem rowEn_row (E : List En) : rowEn (.row 3 (E.map enW)) = some E := unEn_map E
theorem rowEn_rel {L : V} {E : List En} (h : rowEn L = some E) {w : World} {ok : Nat → Prop} {val : Value} (hv : RelD w ok L val) : RelD w ok (.row 3 (E.map enW)) val := by
  unfold rowEn at h
  split at h
  · rw [← unEn_eq h]; exact hv
  · simp only [Option.some.injEq] at h
    subst h
    cases hv
    exact .nil _ _
  · cases h
end Go.Proofs.YtdmkmbaaemhhhaaDoor
